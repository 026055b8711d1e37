/- Heads in any order, their names in great letters, are the same heads: the saying of the case law 12 Part 5. Conditions: none. -/
import Derived.Test.YtdgfbojdppohnaaGreatDoorPartD
set_option linter.unusedSimpArgs false
set_option linter.unusedVariables false
namespace Go.Idl
open Go Go.Proofs.Tryz
def S55.zero : S55 := ⟨[], []⟩
structure S25 where
 Em : Int
 A9 : List S55
 Al : List UInt8
deriving DecidableEq
def S25.zero : S25 := ⟨0, [], []⟩
structure S42 where
 Ah : List UInt8
 Ax : List UInt8
 A9 : List S55
 Al : List UInt8
deriving DecidableEq
def S42.zero : S42 := ⟨[], [], [], []⟩
structure S98 where
 fb : List UInt8
deriving DecidableEq
def S98.zero : S98 := ⟨[]⟩
structure AE where
 Bl : S98
deriving DecidableEq
def AE.zero : AE := ⟨S98.zero⟩
structure CC where
 fType : List UInt8
 A6 : List UInt8
deriving DecidableEq
def CC.zero : CC := ⟨[], []⟩
noncomputable def F73 (a0 : Int) : Option Bool :=
 if 65 ≤ a0 then (some (decide (a0 ≤ 90))) else (some false)
set_option maxHeartbeats 8000000 in
set_option pp.deepTerms false in
set_option maxRecDepth 60000 in
theorem TI {H : A0} {K : An → A0 → Prop} (a0 : Int) {r : Bool} (h : F73 a0 = some r) (hK : K (.ret (.v (.bool r))) H) : A2 prog 73 [.v (.int .u8 a0)] H K := by
 refine Aa (N := 9) func73 (by kernel_rfl) rfl (by kernel_rfl) (by kernel_rfl) fun cb hcb hw hbd hnb => ?_; clear hbd hnb; subst hcb; unfold F73 at h; refine A1 fun cb hc1 => ?_; refine vcK ?_
 try simp -implicitDefEqProofs (disch := omega) [go_sem]
 subst hc1; refine A1 fun cb hc2 => ?_; refine vcK ?_
 try simp -implicitDefEqProofs (disch := omega) [go_sem]
 refine A5 h (by first | with_reducible rfl | (simp -implicitDefEqProofs (disch := omega) [go_sem] <;> omega)) ?_ ?_
 ·intro c3 h
  try simp (disch := omega) at c3
  try simp -implicitDefEqProofs (disch := omega) [go_sem]
  subst hc2; refine vcK ?_; simp -implicitDefEqProofs only [go_sem]; have er := Option.some.inj h; subst er
  try simp -implicitDefEqProofs (disch := omega) [go_sem]
  refine A3 (by exact A7 (Ext.refl hw)) (by first | with_reducible rfl | (simp -implicitDefEqProofs (disch := omega) [go_sem] <;> omega)) nbA hK
 ·intro c3 h
  try simp (disch := omega) at c3
  try simp -implicitDefEqProofs (disch := omega) [go_sem]
  subst hc2; refine vcK ?_; simp -implicitDefEqProofs only [go_sem]; have er := Option.some.inj h; subst er
  try simp -implicitDefEqProofs (disch := omega) [go_sem]
  refine A3 (by exact A7 (Ext.refl hw)) (by first | with_reducible rfl | (simp -implicitDefEqProofs (disch := omega) [go_sem] <;> omega)) nbA hK
noncomputable def Kt  : Option Bool :=
 some true
noncomputable def IU (a0 : List UInt8) (v6 : Int) : Option (Int ⊕ (Unit ⊕ Bool)) :=
 if v6 < (a0.length : Int) then (gd (0 ≤ v6 ∧ v6 < a0.length) ((F73 (((a0.getD v6.toNat 0).toNat : Int))).bind fun (x15 : Bool) => if ¬ (x15 = true) then (some (.inr (.inr false))) else (some (.inl (IntKind.i64.wrap (v6 + 1)))))) else (some (.inr (.inl ())))
noncomputable def F34 (a0 : List UInt8) : Option Bool :=
 gd ((a0.length : Int) ≤ 9223372036854775807) ((AY (fun (s : Int) => IU a0 s) 0).bind fun y => Sum.elim (fun (e : Unit) => Kt) (fun (q : Bool) => some q) y)
set_option maxHeartbeats 8000000 in
set_option pp.deepTerms false in
set_option maxRecDepth 60000 in
theorem TJ {H : A0} {K : An → A0 → Prop} (a0 : List UInt8) {r : Bool} (h : F34 a0 = some r) (hK : K (.ret (.v (.bool r))) H) : A2 prog 34 [.v (str a0), .v (.func (.func 73) #[] #[])] H K := by
 refine Aa (N := 19) func34 (by kernel_rfl) rfl (by kernel_rfl) (by kernel_rfl) fun cb hcb hw hbd hnb => ?_; clear hbd hnb; subst hcb; unfold F34 at h; refine A1 fun cb hc1 => ?_; refine vcK ?_
 try simp -implicitDefEqProofs (disch := omega) [go_sem]
 subst hc1; refine A1 fun cb hc2 => ?_; refine A1 fun cb hc3 => ?_; refine vcK ?_; obtain ⟨g4, h⟩ := A8.1 h
 try simp (disch := omega) at g4
 try simp -implicitDefEqProofs (disch := omega) [go_sem]
 refine CQ a0 rfl (by kernel_rfl) underlying9 underlying23 underlying5 (by first | with_reducible rfl | (simp -implicitDefEqProofs (disch := omega) [go_sem]; done) | rfl) (by first | omega | decide | (simp; omega) | (simp (disch := omega); omega)) ?_
 try simp -implicitDefEqProofs (disch := omega) [go_sem]
 subst hc3; obtain ⟨y5, hl5q, hk5⟩ := A4 h; refine AZ (fun tm' H' => .inl () = y5 ∧ H = H') ?_ fun cb hc5 => ?_
 ·rintro tm5e H5e ⟨rfl, rfl⟩
  have h : Kt = some r := hk5; unfold Kt at h; simp -implicitDefEqProofs only [go_sem]; subst hc2; refine A1 fun cb hc7 => ?_; refine vcK ?_
  try simp -implicitDefEqProofs (disch := omega) [go_sem]
  subst hc7; refine vcK ?_; simp -implicitDefEqProofs only [go_sem]; have er := Option.some.inj h; subst er
  try simp -implicitDefEqProofs (disch := omega) [go_sem]
  refine A3 (by exact A7 (Ext.refl hw)) (by first | with_reducible rfl | (simp -implicitDefEqProofs (disch := omega) [go_sem] <;> omega)) nbA hK
 ·refine Ag ?_; refine AQ (fun (s : Int) tm' H' => H = H' ∧ tm' 1 = .v (.func (.func 73) #[] #[]) ∧ tm' 8 = .sl 1 (a0.map fun x => [.v (.int .u8 x.toNat)]) ∧ tm' 9 = .v (.int .i64 (a0.length : Int)) ∧ tm' 10 = .v (.int .i64 s)) hl5q ?_ ?_
  ·refine .same ⟨rfl, ?_, ?_, ?_, ?_⟩ <;> first | with_reducible rfl | with_reducible assumption | (simp -implicitDefEqProofs (disch := omega) [go_sem] <;> omega)
  ·rintro I5 hI5 v6 x5 tm5 H5 ⟨rfl, BB, Am, BC, AS⟩ h hret5
   replace h : IU a0 v6 = some x5 := h; unfold IU at h; refine A1 fun cb hc8 => ?_; refine vcK ?_
   try simp -implicitDefEqProofs (disch := omega) [go_sem, BB, Am, BC, AS]
   subst hc8; refine A1 fun cb hc9 => ?_; refine Ac h (by first | with_reducible rfl | (simp -implicitDefEqProofs (disch := omega) [go_sem, BB, Am, BC, AS] <;> omega)) rfl ?_ ?_
   ·intro c10 h
    try simp (disch := omega) at c10
    refine vcK ?_; simp -implicitDefEqProofs only [go_sem]; subst hc9; refine A1 fun cb hc11 => ?_; refine Ag ?_; refine A1 fun cb hc12 => ?_; refine vcK ?_; obtain ⟨g13, h⟩ := A8.1 h
    try simp (disch := omega) at g13
    try simp -implicitDefEqProofs (disch := omega) [go_sem, BB, Am, BC, AS]
    subst hc12; refine A1 fun cb hc14 => ?_; refine vcK ?_
    try simp -implicitDefEqProofs (disch := omega) [go_sem, BB, Am, BC, AS]
    obtain ⟨x15, hx15, h⟩ := A4 h; refine A2.eqA (args' := [.v (.int .u8 (((a0.getD v6.toNat 0).toNat : Int)))]) (by first | with_reducible rfl | (simp -implicitDefEqProofs (disch := omega) [go_sem, BB, Am, BC, AS] <;> omega)) (TI (((a0.getD v6.toNat 0).toNat : Int)) hx15 ?_)
    try simp -implicitDefEqProofs (disch := omega) [go_sem, BB, Am, BC, AS]
    subst hc14; refine Ac h (by first | with_reducible rfl | (simp -implicitDefEqProofs (disch := omega) [go_sem, BB, Am, BC, AS] <;> omega)) rfl ?_ ?_
    ·intro c16 h
     try simp (disch := omega) at c16
     refine A1 fun cb hc17 => ?_; refine vcK ?_
     try simp -implicitDefEqProofs (disch := omega) [go_sem, BB, Am, BC, AS]
     subst hc17; refine vcK ?_; simp -implicitDefEqProofs only [go_sem]; have e5 := Option.some.inj h; subst e5; have e5 := hret5 _ rfl; subst e5; replace h : some false = some r := hk5; have er := Option.some.inj h; subst er
     try simp -implicitDefEqProofs (disch := omega) [go_sem, BB, Am, BC, AS]
     refine A3 (by exact A7 (Ext.refl hw)) (by first | with_reducible rfl | (simp -implicitDefEqProofs (disch := omega) [go_sem, BB, Am, BC, AS] <;> omega)) nbA hK
    ·intro c16 h
     try simp (disch := omega) at c16
     refine vcK ?_; simp -implicitDefEqProofs only [go_sem]; subst hc11; refine vcK ?_
     try simp -implicitDefEqProofs (disch := omega) [go_sem, BB, Am, BC, AS]
     have e5 := Option.some.inj h; subst e5; refine Ap hI5 (IntKind.i64.wrap (v6 + 1)) ?_; refine .same ⟨rfl, ?_, ?_, ?_, ?_⟩ <;> first | with_reducible rfl | with_reducible assumption | (simp -implicitDefEqProofs (disch := omega) [go_sem, BB, Am, BC, AS] <;> omega)
   ·intro c10 h
    try simp (disch := omega) at c10
    refine vcK ?_; simp -implicitDefEqProofs only [go_sem]; have e5 := Option.some.inj h; subst e5; have hy5 := hret5 _ rfl; refine hc5 _ _ ?_; refine .same ⟨hy5, rfl⟩
noncomputable def F45 (a0 : List UInt8) : Option Bool :=
 if 1 ≤ (a0.length : Int) then (if (a0.length : Int) ≤ 20 then ((F34 a0).bind fun (x3 : Bool) => some x3) else (some false)) else (some false)
set_option maxHeartbeats 8000000 in
set_option pp.deepTerms false in
set_option maxRecDepth 60000 in
theorem Pj {H : A0} {K : An → A0 → Prop} (a0 : List UInt8) {r : Bool} (h : F45 a0 = some r) (hK : K (.ret (.v (.bool r))) H) : A2 prog 45 [.v (str a0)] H K := by
 refine Aa (N := 15) func45 (by kernel_rfl) rfl (by kernel_rfl) (by kernel_rfl) fun cb hcb hw hbd hnb => ?_; clear hbd hnb; subst hcb; unfold F45 at h; refine A1 fun cb hc1 => ?_; refine vcK ?_
 try simp -implicitDefEqProofs (disch := omega) [go_sem]
 subst hc1; refine A1 fun cb hc2 => ?_; refine vcK ?_
 try simp -implicitDefEqProofs (disch := omega) [go_sem]
 refine A5 h (by first | with_reducible rfl | (simp -implicitDefEqProofs (disch := omega) [go_sem] <;> omega)) ?_ ?_
 ·intro c5 h
  try simp (disch := omega) at c5
  try simp -implicitDefEqProofs (disch := omega) [go_sem]
  refine A5 h (by first | with_reducible rfl | (simp -implicitDefEqProofs (disch := omega) [go_sem] <;> omega)) ?_ ?_
  ·intro c4 h
   try simp (disch := omega) at c4
   try simp -implicitDefEqProofs (disch := omega) [go_sem]
   obtain ⟨x3, hx3, h⟩ := A4 h; refine A2.eqA (args' := [.v (str a0), .v (.func (.func 73) #[] #[])]) (by first | with_reducible rfl | (simp -implicitDefEqProofs (disch := omega) [go_sem] <;> omega)) (TJ a0 hx3 ?_)
   try simp -implicitDefEqProofs (disch := omega) [go_sem]
   subst hc2; refine vcK ?_; simp -implicitDefEqProofs only [go_sem]; have er := Option.some.inj h; subst er
   try simp -implicitDefEqProofs (disch := omega) [go_sem]
   refine A3 (by exact A7 (Ext.refl hw)) (by first | with_reducible rfl | (simp -implicitDefEqProofs (disch := omega) [go_sem] <;> omega)) nbA hK
  ·intro c4 h
   try simp (disch := omega) at c4
   try simp -implicitDefEqProofs (disch := omega) [go_sem]
   subst hc2; refine vcK ?_; simp -implicitDefEqProofs only [go_sem]; have er := Option.some.inj h; subst er
   try simp -implicitDefEqProofs (disch := omega) [go_sem]
   refine A3 (by exact A7 (Ext.refl hw)) (by first | with_reducible rfl | (simp -implicitDefEqProofs (disch := omega) [go_sem] <;> omega)) nbA hK
 ·intro c5 h
  try simp (disch := omega) at c5
  try simp -implicitDefEqProofs (disch := omega) [go_sem]
  subst hc2; refine vcK ?_; simp -implicitDefEqProofs only [go_sem]; have er := Option.some.inj h; subst er
  try simp -implicitDefEqProofs (disch := omega) [go_sem]
  refine A3 (by exact A7 (Ext.refl hw)) (by first | with_reducible rfl | (simp -implicitDefEqProofs (disch := omega) [go_sem] <;> omega)) nbA hK
noncomputable def F74 (a0 : Int) : Option Bool :=
 if 33 ≤ a0 then (some (decide (a0 ≤ 126))) else (some false)
set_option maxHeartbeats 8000000 in
set_option pp.deepTerms false in
set_option maxRecDepth 60000 in
theorem TK {H : A0} {K : An → A0 → Prop} (a0 : Int) {r : Bool} (h : F74 a0 = some r) (hK : K (.ret (.v (.bool r))) H) : A2 prog 74 [.v (.int .u8 a0)] H K := by
 refine Aa (N := 9) func74 (by kernel_rfl) rfl (by kernel_rfl) (by kernel_rfl) fun cb hcb hw hbd hnb => ?_; clear hbd hnb; subst hcb; unfold F74 at h; refine A1 fun cb hc1 => ?_; refine vcK ?_
 try simp -implicitDefEqProofs (disch := omega) [go_sem]
 subst hc1; refine A1 fun cb hc2 => ?_; refine vcK ?_
 try simp -implicitDefEqProofs (disch := omega) [go_sem]
 refine A5 h (by first | with_reducible rfl | (simp -implicitDefEqProofs (disch := omega) [go_sem] <;> omega)) ?_ ?_
 ·intro c3 h
  try simp (disch := omega) at c3
  try simp -implicitDefEqProofs (disch := omega) [go_sem]
  subst hc2; refine vcK ?_; simp -implicitDefEqProofs only [go_sem]; have er := Option.some.inj h; subst er
  try simp -implicitDefEqProofs (disch := omega) [go_sem]
  refine A3 (by exact A7 (Ext.refl hw)) (by first | with_reducible rfl | (simp -implicitDefEqProofs (disch := omega) [go_sem] <;> omega)) nbA hK
 ·intro c3 h
  try simp (disch := omega) at c3
  try simp -implicitDefEqProofs (disch := omega) [go_sem]
  subst hc2; refine vcK ?_; simp -implicitDefEqProofs only [go_sem]; have er := Option.some.inj h; subst er
  try simp -implicitDefEqProofs (disch := omega) [go_sem]
  refine A3 (by exact A7 (Ext.refl hw)) (by first | with_reducible rfl | (simp -implicitDefEqProofs (disch := omega) [go_sem] <;> omega)) nbA hK
noncomputable def Gk  : Option Bool :=
 some true
noncomputable def EJ (a0 : List UInt8) (v6 : Int) : Option (Int ⊕ (Unit ⊕ Bool)) :=
 if v6 < (a0.length : Int) then (gd (0 ≤ v6 ∧ v6 < a0.length) ((F74 (((a0.getD v6.toNat 0).toNat : Int))).bind fun (x15 : Bool) => if ¬ (x15 = true) then (some (.inr (.inr false))) else (some (.inl (IntKind.i64.wrap (v6 + 1)))))) else (some (.inr (.inl ())))
noncomputable def LD (a0 : List UInt8) : Option Bool :=
 gd ((a0.length : Int) ≤ 9223372036854775807) ((AY (fun (s : Int) => EJ a0 s) 0).bind fun y => Sum.elim (fun (e : Unit) => Gk) (fun (q : Bool) => some q) y)
set_option maxHeartbeats 8000000 in
set_option pp.deepTerms false in
set_option maxRecDepth 60000 in
theorem Pk {H : A0} {K : An → A0 → Prop} (a0 : List UInt8) {r : Bool} (h : LD a0 = some r) (hK : K (.ret (.v (.bool r))) H) : A2 prog 34 [.v (str a0), .v (.func (.func 74) #[] #[])] H K := by
 refine Aa (N := 19) func34 (by kernel_rfl) rfl (by kernel_rfl) (by kernel_rfl) fun cb hcb hw hbd hnb => ?_; clear hbd hnb; subst hcb; unfold LD at h; refine A1 fun cb hc1 => ?_; refine vcK ?_
 try simp -implicitDefEqProofs (disch := omega) [go_sem]
 subst hc1; refine A1 fun cb hc2 => ?_; refine A1 fun cb hc3 => ?_; refine vcK ?_; obtain ⟨g4, h⟩ := A8.1 h
 try simp (disch := omega) at g4
 try simp -implicitDefEqProofs (disch := omega) [go_sem]
 refine CQ a0 rfl (by kernel_rfl) underlying9 underlying23 underlying5 (by first | with_reducible rfl | (simp -implicitDefEqProofs (disch := omega) [go_sem]; done) | rfl) (by first | omega | decide | (simp; omega) | (simp (disch := omega); omega)) ?_
 try simp -implicitDefEqProofs (disch := omega) [go_sem]
 subst hc3; obtain ⟨y5, hl5q, hk5⟩ := A4 h; refine AZ (fun tm' H' => .inl () = y5 ∧ H = H') ?_ fun cb hc5 => ?_
 ·rintro tm5e H5e ⟨rfl, rfl⟩
  have h : Gk = some r := hk5; unfold Gk at h; simp -implicitDefEqProofs only [go_sem]; subst hc2; refine A1 fun cb hc7 => ?_; refine vcK ?_
  try simp -implicitDefEqProofs (disch := omega) [go_sem]
  subst hc7; refine vcK ?_; simp -implicitDefEqProofs only [go_sem]; have er := Option.some.inj h; subst er
  try simp -implicitDefEqProofs (disch := omega) [go_sem]
  refine A3 (by exact A7 (Ext.refl hw)) (by first | with_reducible rfl | (simp -implicitDefEqProofs (disch := omega) [go_sem] <;> omega)) nbA hK
 ·refine Ag ?_; refine AQ (fun (s : Int) tm' H' => H = H' ∧ tm' 1 = .v (.func (.func 74) #[] #[]) ∧ tm' 8 = .sl 1 (a0.map fun x => [.v (.int .u8 x.toNat)]) ∧ tm' 9 = .v (.int .i64 (a0.length : Int)) ∧ tm' 10 = .v (.int .i64 s)) hl5q ?_ ?_
  ·refine .same ⟨rfl, ?_, ?_, ?_, ?_⟩ <;> first | with_reducible rfl | with_reducible assumption | (simp -implicitDefEqProofs (disch := omega) [go_sem] <;> omega)
  ·rintro I5 hI5 v6 x5 tm5 H5 ⟨rfl, BB, Am, BC, AS⟩ h hret5
   replace h : EJ a0 v6 = some x5 := h; unfold EJ at h; refine A1 fun cb hc8 => ?_; refine vcK ?_
   try simp -implicitDefEqProofs (disch := omega) [go_sem, BB, Am, BC, AS]
   subst hc8; refine A1 fun cb hc9 => ?_; refine Ac h (by first | with_reducible rfl | (simp -implicitDefEqProofs (disch := omega) [go_sem, BB, Am, BC, AS] <;> omega)) rfl ?_ ?_
   ·intro c10 h
    try simp (disch := omega) at c10
    refine vcK ?_; simp -implicitDefEqProofs only [go_sem]; subst hc9; refine A1 fun cb hc11 => ?_; refine Ag ?_; refine A1 fun cb hc12 => ?_; refine vcK ?_; obtain ⟨g13, h⟩ := A8.1 h
    try simp (disch := omega) at g13
    try simp -implicitDefEqProofs (disch := omega) [go_sem, BB, Am, BC, AS]
    subst hc12; refine A1 fun cb hc14 => ?_; refine vcK ?_
    try simp -implicitDefEqProofs (disch := omega) [go_sem, BB, Am, BC, AS]
    obtain ⟨x15, hx15, h⟩ := A4 h; refine A2.eqA (args' := [.v (.int .u8 (((a0.getD v6.toNat 0).toNat : Int)))]) (by first | with_reducible rfl | (simp -implicitDefEqProofs (disch := omega) [go_sem, BB, Am, BC, AS] <;> omega)) (TK (((a0.getD v6.toNat 0).toNat : Int)) hx15 ?_)
    try simp -implicitDefEqProofs (disch := omega) [go_sem, BB, Am, BC, AS]
    subst hc14; refine Ac h (by first | with_reducible rfl | (simp -implicitDefEqProofs (disch := omega) [go_sem, BB, Am, BC, AS] <;> omega)) rfl ?_ ?_
    ·intro c16 h
     try simp (disch := omega) at c16
     refine A1 fun cb hc17 => ?_; refine vcK ?_
     try simp -implicitDefEqProofs (disch := omega) [go_sem, BB, Am, BC, AS]
     subst hc17; refine vcK ?_; simp -implicitDefEqProofs only [go_sem]; have e5 := Option.some.inj h; subst e5; have e5 := hret5 _ rfl; subst e5; replace h : some false = some r := hk5; have er := Option.some.inj h; subst er
     try simp -implicitDefEqProofs (disch := omega) [go_sem, BB, Am, BC, AS]
     refine A3 (by exact A7 (Ext.refl hw)) (by first | with_reducible rfl | (simp -implicitDefEqProofs (disch := omega) [go_sem, BB, Am, BC, AS] <;> omega)) nbA hK
    ·intro c16 h
     try simp (disch := omega) at c16
     refine vcK ?_; simp -implicitDefEqProofs only [go_sem]; subst hc11; refine vcK ?_
     try simp -implicitDefEqProofs (disch := omega) [go_sem, BB, Am, BC, AS]
     have e5 := Option.some.inj h; subst e5; refine Ap hI5 (IntKind.i64.wrap (v6 + 1)) ?_; refine .same ⟨rfl, ?_, ?_, ?_, ?_⟩ <;> first | with_reducible rfl | with_reducible assumption | (simp -implicitDefEqProofs (disch := omega) [go_sem, BB, Am, BC, AS] <;> omega)
   ·intro c10 h
    try simp (disch := omega) at c10
    refine vcK ?_; simp -implicitDefEqProofs only [go_sem]; have e5 := Option.some.inj h; subst e5; have hy5 := hret5 _ rfl; refine hc5 _ _ ?_; refine .same ⟨hy5, rfl⟩
noncomputable def F46 (a0 : List UInt8) : Option Bool :=
 if 1 ≤ (a0.length : Int) then (if (a0.length : Int) ≤ 200 then (gd (0 < a0.length) (if (((a0.getD 0 0).toNat : Int)) = 47 then ((LD a0).bind fun (x4 : Bool) => some x4) else (some false))) else (some false)) else (some false)
set_option maxHeartbeats 8000000 in
set_option pp.deepTerms false in
set_option maxRecDepth 60000 in
theorem Pm {H : A0} {K : An → A0 → Prop} (a0 : List UInt8) {r : Bool} (h : F46 a0 = some r) (hK : K (.ret (.v (.bool r))) H) : A2 prog 46 [.v (str a0)] H K := by
 refine Aa (N := 20) func46 (by kernel_rfl) rfl (by kernel_rfl) (by kernel_rfl) fun cb hcb hw hbd hnb => ?_; clear hbd hnb; subst hcb; unfold F46 at h; refine A1 fun cb hc1 => ?_; refine vcK ?_
 try simp -implicitDefEqProofs (disch := omega) [go_sem]
 subst hc1; refine A1 fun cb hc2 => ?_; refine vcK ?_
 try simp -implicitDefEqProofs (disch := omega) [go_sem]
 refine A5 h (by first | with_reducible rfl | (simp -implicitDefEqProofs (disch := omega) [go_sem] <;> omega)) ?_ ?_
 ·intro c7 h
  try simp (disch := omega) at c7
  try simp -implicitDefEqProofs (disch := omega) [go_sem]
  refine A5 h (by first | with_reducible rfl | (simp -implicitDefEqProofs (disch := omega) [go_sem] <;> omega)) ?_ ?_
  ·intro c6 h
   try simp (disch := omega) at c6
   obtain ⟨g3, h⟩ := A8.1 h
   try simp (disch := omega) at g3
   try simp -implicitDefEqProofs (disch := omega) [go_sem]
   refine A5 h (by first | with_reducible rfl | (simp -implicitDefEqProofs (disch := omega) [go_sem] <;> omega)) ?_ ?_
   ·intro c5 h
    try simp (disch := omega) at c5
    try simp -implicitDefEqProofs (disch := omega) [go_sem]
    obtain ⟨x4, hx4, h⟩ := A4 h; refine A2.eqA (args' := [.v (str a0), .v (.func (.func 74) #[] #[])]) (by first | with_reducible rfl | (simp -implicitDefEqProofs (disch := omega) [go_sem] <;> omega)) (Pk a0 hx4 ?_)
    try simp -implicitDefEqProofs (disch := omega) [go_sem]
    subst hc2; refine vcK ?_; simp -implicitDefEqProofs only [go_sem]; have er := Option.some.inj h; subst er
    try simp -implicitDefEqProofs (disch := omega) [go_sem]
    refine A3 (by exact A7 (Ext.refl hw)) (by first | with_reducible rfl | (simp -implicitDefEqProofs (disch := omega) [go_sem] <;> omega)) nbA hK
   ·intro c5 h
    try simp (disch := omega) at c5
    try simp -implicitDefEqProofs (disch := omega) [go_sem]
    subst hc2; refine vcK ?_; simp -implicitDefEqProofs only [go_sem]; have er := Option.some.inj h; subst er
    try simp -implicitDefEqProofs (disch := omega) [go_sem]
    refine A3 (by exact A7 (Ext.refl hw)) (by first | with_reducible rfl | (simp -implicitDefEqProofs (disch := omega) [go_sem] <;> omega)) nbA hK
  ·intro c6 h
   try simp (disch := omega) at c6
   try simp -implicitDefEqProofs (disch := omega) [go_sem]
   subst hc2; refine vcK ?_; simp -implicitDefEqProofs only [go_sem]; have er := Option.some.inj h; subst er
   try simp -implicitDefEqProofs (disch := omega) [go_sem]
   refine A3 (by exact A7 (Ext.refl hw)) (by first | with_reducible rfl | (simp -implicitDefEqProofs (disch := omega) [go_sem] <;> omega)) nbA hK
 ·intro c7 h
  try simp (disch := omega) at c7
  try simp -implicitDefEqProofs (disch := omega) [go_sem]
  subst hc2; refine vcK ?_; simp -implicitDefEqProofs only [go_sem]; have er := Option.some.inj h; subst er
  try simp -implicitDefEqProofs (disch := omega) [go_sem]
  refine A3 (by exact A7 (Ext.refl hw)) (by first | with_reducible rfl | (simp -implicitDefEqProofs (disch := omega) [go_sem] <;> omega)) nbA hK
noncomputable def Jj (a0 : Int) (a1 : Int) (a2 : Int) : Option Bool :=
 if a1 ≤ a0 then (some (decide (a0 ≤ a2))) else (some false)
set_option maxHeartbeats 8000000 in
set_option pp.deepTerms false in
set_option maxRecDepth 60000 in
theorem Ku {H : A0} {K : An → A0 → Prop} (a0 : Int) (a1 : Int) (a2 : Int) {r : Bool} (h : Jj a0 a1 a2 = some r) (hK : K (.ret (.v (.bool r))) H) : A2 prog 133 [.v (.int .u8 a0), .v (.int .u8 a1), .v (.int .u8 a2)] H K := by
 refine Aa (N := 15) func133 (by kernel_rfl) rfl (by kernel_rfl) (by kernel_rfl) fun cb hcb hw hbd hnb => ?_; clear hbd hnb; subst hcb; unfold Jj at h; refine A1 fun cb hc1 => ?_; refine vcK ?_
 try simp -implicitDefEqProofs (disch := omega) [go_sem]
 subst hc1; refine A1 fun cb hc2 => ?_; refine vcK ?_
 try simp -implicitDefEqProofs (disch := omega) [go_sem]
 refine A5 h (by first | with_reducible rfl | (simp -implicitDefEqProofs (disch := omega) [go_sem] <;> omega)) ?_ ?_
 ·intro c3 h
  try simp (disch := omega) at c3
  try simp -implicitDefEqProofs (disch := omega) [go_sem]
  subst hc2; refine vcK ?_; simp -implicitDefEqProofs only [go_sem]; have er := Option.some.inj h; subst er
  try simp -implicitDefEqProofs (disch := omega) [go_sem]
  refine A3 (by exact A7 (Ext.refl hw)) (by first | with_reducible rfl | (simp -implicitDefEqProofs (disch := omega) [go_sem] <;> omega)) nbA hK
 ·intro c3 h
  try simp (disch := omega) at c3
  try simp -implicitDefEqProofs (disch := omega) [go_sem]
  subst hc2; refine vcK ?_; simp -implicitDefEqProofs only [go_sem]; have er := Option.some.inj h; subst er
  try simp -implicitDefEqProofs (disch := omega) [go_sem]
  refine A3 (by exact A7 (Ext.refl hw)) (by first | with_reducible rfl | (simp -implicitDefEqProofs (disch := omega) [go_sem] <;> omega)) nbA hK
noncomputable def Gl (a0 : List UInt8) : Option Bool :=
 if 1 ≤ (a0.length : Int) then (some (decide ((a0.length : Int) ≤ 64))) else (some false)
noncomputable def Gm (a0 : List UInt8) (v6 : Int) : Option (Int ⊕ (Unit ⊕ Bool)) :=
 if v6 < (a0.length : Int) then (gd (0 ≤ v6 ∧ v6 < a0.length) ((Jj (((a0.getD v6.toNat 0).toNat : Int)) 97 122).bind fun (x16 : Bool) => if ¬ (x16 = true) then ((Jj (((a0.getD v6.toNat 0).toNat : Int)) 65 90).bind fun (x17 : Bool) => if ¬ (x17 = true) then (if v6 = 0 then (some (.inr (.inr false))) else ((Jj (((a0.getD v6.toNat 0).toNat : Int)) 48 57).bind fun (x19 : Bool) => if ¬ (x19 = true) then (if ¬ (((a0.getD v6.toNat 0).toNat : Int)) = 45 then (some (.inr (.inr false))) else (some (.inl (IntKind.i64.wrap (v6 + 1))))) else (some (.inl (IntKind.i64.wrap (v6 + 1)))))) else (some (.inl (IntKind.i64.wrap (v6 + 1))))) else (some (.inl (IntKind.i64.wrap (v6 + 1)))))) else (some (.inr (.inl ())))
noncomputable def Pn (a0 : List UInt8) : Option Bool :=
 gd ((a0.length : Int) ≤ 9223372036854775807) ((AY (fun (s : Int) => Gm a0 s) 0).bind fun y => Sum.elim (fun (e : Unit) => Gl a0) (fun (q : Bool) => some q) y)
set_option maxHeartbeats 8000000 in
set_option pp.deepTerms false in
set_option maxRecDepth 60000 in
theorem Rf {H : A0} {K : An → A0 → Prop} (a0 : List UInt8) {r : Bool} (h : Pn a0 = some r) (hK : K (.ret (.v (.bool r))) H) : A2 prog 105 [.v (str a0)] H K := by
 refine Aa (N := 43) func105 (by kernel_rfl) rfl (by kernel_rfl) (by kernel_rfl) fun cb hcb hw hbd hnb => ?_; clear hbd hnb; subst hcb; unfold Pn at h; refine A1 fun cb hc1 => ?_; refine vcK ?_
 try simp -implicitDefEqProofs (disch := omega) [go_sem]
 subst hc1; refine A1 fun cb hc2 => ?_; refine A1 fun cb hc3 => ?_; refine vcK ?_; obtain ⟨g4, h⟩ := A8.1 h
 try simp (disch := omega) at g4
 try simp -implicitDefEqProofs (disch := omega) [go_sem]
 refine CQ a0 rfl (by kernel_rfl) underlying9 underlying23 underlying5 (by first | with_reducible rfl | (simp -implicitDefEqProofs (disch := omega) [go_sem]; done) | rfl) (by first | omega | decide | (simp; omega) | (simp (disch := omega); omega)) ?_
 try simp -implicitDefEqProofs (disch := omega) [go_sem]
 subst hc3; obtain ⟨y5, hl5q, hk5⟩ := A4 h; refine AZ (fun tm' H' => .inl () = y5 ∧ H = H' ∧ tm' 0 = .v (str a0)) ?_ fun cb hc5 => ?_
 ·rintro tm5e H5e ⟨rfl, rfl, t0_5e⟩
  have h : Gl a0 = some r := hk5; unfold Gl at h; simp -implicitDefEqProofs only [go_sem]; subst hc2; refine A1 fun cb hc7 => ?_; refine vcK ?_
  try simp -implicitDefEqProofs (disch := omega) [go_sem, t0_5e]
  refine A5 h (by first | with_reducible rfl | (simp -implicitDefEqProofs (disch := omega) [go_sem, t0_5e] <;> omega)) ?_ ?_
  ·intro c8 h
   try simp (disch := omega) at c8
   try simp -implicitDefEqProofs (disch := omega) [go_sem, t0_5e]
   subst hc7; refine vcK ?_; simp -implicitDefEqProofs only [go_sem]; have er := Option.some.inj h; subst er
   try simp -implicitDefEqProofs (disch := omega) [go_sem, t0_5e]
   refine A3 (by exact A7 (Ext.refl hw)) (by first | with_reducible rfl | (simp -implicitDefEqProofs (disch := omega) [go_sem, t0_5e] <;> omega)) nbA hK
  ·intro c8 h
   try simp (disch := omega) at c8
   try simp -implicitDefEqProofs (disch := omega) [go_sem, t0_5e]
   subst hc7; refine vcK ?_; simp -implicitDefEqProofs only [go_sem]; have er := Option.some.inj h; subst er
   try simp -implicitDefEqProofs (disch := omega) [go_sem, t0_5e]
   refine A3 (by exact A7 (Ext.refl hw)) (by first | with_reducible rfl | (simp -implicitDefEqProofs (disch := omega) [go_sem, t0_5e] <;> omega)) nbA hK
 ·refine Ag ?_; refine AQ (fun (s : Int) tm' H' => H = H' ∧ tm' 0 = .v (str a0) ∧ tm' 6 = .sl 1 (a0.map fun x => [.v (.int .u8 x.toNat)]) ∧ tm' 7 = .v (.int .i64 (a0.length : Int)) ∧ tm' 8 = .v (.int .i64 s)) hl5q ?_ ?_
  ·refine .same ⟨rfl, ?_, ?_, ?_, ?_⟩ <;> first | with_reducible rfl | with_reducible assumption | (simp -implicitDefEqProofs (disch := omega) [go_sem] <;> omega)
  ·rintro I5 hI5 v6 x5 tm5 H5 ⟨rfl, Bi, Bb, Aw, Am⟩ h hret5
   replace h : Gm a0 v6 = some x5 := h; unfold Gm at h; refine A1 fun cb hc9 => ?_; refine vcK ?_
   try simp -implicitDefEqProofs (disch := omega) [go_sem, Bi, Bb, Aw, Am]
   subst hc9; refine A1 fun cb hc10 => ?_; refine Ac h (by first | with_reducible rfl | (simp -implicitDefEqProofs (disch := omega) [go_sem, Bi, Bb, Aw, Am] <;> omega)) rfl ?_ ?_
   ·intro c11 h
    try simp (disch := omega) at c11
    refine vcK ?_; simp -implicitDefEqProofs only [go_sem]; subst hc10; refine A1 fun cb hc12 => ?_; refine Ag ?_; refine A1 fun cb hc13 => ?_; refine vcK ?_; obtain ⟨g14, h⟩ := A8.1 h
    try simp (disch := omega) at g14
    try simp -implicitDefEqProofs (disch := omega) [go_sem, Bi, Bb, Aw, Am]
    subst hc13; refine A1 fun cb hc15 => ?_; refine vcK ?_
    try simp -implicitDefEqProofs (disch := omega) [go_sem, Bi, Bb, Aw, Am]
    obtain ⟨x16, hx16, h⟩ := A4 h; refine A2.eqA (args' := [.v (.int .u8 (((a0.getD v6.toNat 0).toNat : Int))), .v (.int .u8 97), .v (.int .u8 122)]) (by first | with_reducible rfl | (simp -implicitDefEqProofs (disch := omega) [go_sem, Bi, Bb, Aw, Am] <;> omega)) (Ku (((a0.getD v6.toNat 0).toNat : Int)) 97 122 hx16 ?_)
    try simp -implicitDefEqProofs (disch := omega) [go_sem, Bi, Bb, Aw, Am]
    refine A5 h (by first | with_reducible rfl | (simp -implicitDefEqProofs (disch := omega) [go_sem, Bi, Bb, Aw, Am] <;> omega)) ?_ ?_
    ·intro c25 h
     try simp (disch := omega) at c25
     try simp -implicitDefEqProofs (disch := omega) [go_sem, Bi, Bb, Aw, Am]
     obtain ⟨x17, hx17, h⟩ := A4 h; refine A2.eqA (args' := [.v (.int .u8 (((a0.getD v6.toNat 0).toNat : Int))), .v (.int .u8 65), .v (.int .u8 90)]) (by first | with_reducible rfl | (simp -implicitDefEqProofs (disch := omega) [go_sem, Bi, Bb, Aw, Am] <;> omega)) (Ku (((a0.getD v6.toNat 0).toNat : Int)) 65 90 hx17 ?_)
     try simp -implicitDefEqProofs (disch := omega) [go_sem, Bi, Bb, Aw, Am]
     refine A5 h (by first | with_reducible rfl | (simp -implicitDefEqProofs (disch := omega) [go_sem, Bi, Bb, Aw, Am] <;> omega)) ?_ ?_
     ·intro c24 h
      try simp (disch := omega) at c24
      try simp -implicitDefEqProofs (disch := omega) [go_sem, Bi, Bb, Aw, Am]
      refine A5 h (by first | with_reducible rfl | (simp -implicitDefEqProofs (disch := omega) [go_sem, Bi, Bb, Aw, Am] <;> omega)) ?_ ?_
      ·intro c23 h
       try simp (disch := omega) at c23
       try simp -implicitDefEqProofs (disch := omega) [go_sem, Bi, Bb, Aw, Am]
       subst hc15; refine Aq (by first | with_reducible rfl | (simp -implicitDefEqProofs (disch := omega) [go_sem, Bi, Bb, Aw, Am] <;> omega)) rfl ?_; refine A1 fun cb hc18 => ?_; refine vcK ?_
       try simp -implicitDefEqProofs (disch := omega) [go_sem, Bi, Bb, Aw, Am]
       subst hc18; refine vcK ?_; simp -implicitDefEqProofs only [go_sem]; have e5 := Option.some.inj h; subst e5; have e5 := hret5 _ rfl; subst e5; replace h : some false = some r := hk5; have er := Option.some.inj h; subst er
       try simp -implicitDefEqProofs (disch := omega) [go_sem, Bi, Bb, Aw, Am]
       refine A3 (by exact A7 (Ext.refl hw)) (by first | with_reducible rfl | (simp -implicitDefEqProofs (disch := omega) [go_sem, Bi, Bb, Aw, Am] <;> omega)) nbA hK
      ·intro c23 h
       try simp (disch := omega) at c23
       try simp -implicitDefEqProofs (disch := omega) [go_sem, Bi, Bb, Aw, Am]
       obtain ⟨x19, hx19, h⟩ := A4 h; refine A2.eqA (args' := [.v (.int .u8 (((a0.getD v6.toNat 0).toNat : Int))), .v (.int .u8 48), .v (.int .u8 57)]) (by first | with_reducible rfl | (simp -implicitDefEqProofs (disch := omega) [go_sem, Bi, Bb, Aw, Am] <;> omega)) (Ku (((a0.getD v6.toNat 0).toNat : Int)) 48 57 hx19 ?_)
       try simp -implicitDefEqProofs (disch := omega) [go_sem, Bi, Bb, Aw, Am]
       refine A5 h (by first | with_reducible rfl | (simp -implicitDefEqProofs (disch := omega) [go_sem, Bi, Bb, Aw, Am] <;> omega)) ?_ ?_
       ·intro c22 h
        try simp (disch := omega) at c22
        try simp -implicitDefEqProofs (disch := omega) [go_sem, Bi, Bb, Aw, Am]
        subst hc15; refine Ac h (by first | with_reducible rfl | (simp -implicitDefEqProofs (disch := omega) [go_sem, Bi, Bb, Aw, Am] <;> omega)) rfl ?_ ?_
        ·intro c20 h
         try simp (disch := omega) at c20
         refine A1 fun cb hc21 => ?_; refine vcK ?_
         try simp -implicitDefEqProofs (disch := omega) [go_sem, Bi, Bb, Aw, Am]
         subst hc21; refine vcK ?_; simp -implicitDefEqProofs only [go_sem]; have e5 := Option.some.inj h; subst e5; have e5 := hret5 _ rfl; subst e5; replace h : some false = some r := hk5; have er := Option.some.inj h; subst er
         try simp -implicitDefEqProofs (disch := omega) [go_sem, Bi, Bb, Aw, Am]
         refine A3 (by exact A7 (Ext.refl hw)) (by first | with_reducible rfl | (simp -implicitDefEqProofs (disch := omega) [go_sem, Bi, Bb, Aw, Am] <;> omega)) nbA hK
        ·intro c20 h
         try simp (disch := omega) at c20
         refine vcK ?_; simp -implicitDefEqProofs only [go_sem]; subst hc12; refine vcK ?_
         try simp -implicitDefEqProofs (disch := omega) [go_sem, Bi, Bb, Aw, Am]
         have e5 := Option.some.inj h; subst e5; refine Ap hI5 (IntKind.i64.wrap (v6 + 1)) ?_; refine .same ⟨rfl, ?_, ?_, ?_, ?_⟩ <;> first | with_reducible rfl | with_reducible assumption | (simp -implicitDefEqProofs (disch := omega) [go_sem, Bi, Bb, Aw, Am] <;> omega)
       ·intro c22 h
        try simp (disch := omega) at c22
        try simp -implicitDefEqProofs (disch := omega) [go_sem, Bi, Bb, Aw, Am]
        subst hc15; refine By (by first | with_reducible rfl | (simp -implicitDefEqProofs (disch := omega) [go_sem, Bi, Bb, Aw, Am] <;> omega)) rfl ?_; refine vcK ?_; simp -implicitDefEqProofs only [go_sem]; subst hc12; refine vcK ?_
        try simp -implicitDefEqProofs (disch := omega) [go_sem, Bi, Bb, Aw, Am]
        have e5 := Option.some.inj h; subst e5; refine Ap hI5 (IntKind.i64.wrap (v6 + 1)) ?_; refine .same ⟨rfl, ?_, ?_, ?_, ?_⟩ <;> first | with_reducible rfl | with_reducible assumption | (simp -implicitDefEqProofs (disch := omega) [go_sem, Bi, Bb, Aw, Am] <;> omega)
     ·intro c24 h
      try simp (disch := omega) at c24
      try simp -implicitDefEqProofs (disch := omega) [go_sem, Bi, Bb, Aw, Am]
      subst hc15; refine By (by first | with_reducible rfl | (simp -implicitDefEqProofs (disch := omega) [go_sem, Bi, Bb, Aw, Am] <;> omega)) rfl ?_; refine vcK ?_; simp -implicitDefEqProofs only [go_sem]; subst hc12; refine vcK ?_
      try simp -implicitDefEqProofs (disch := omega) [go_sem, Bi, Bb, Aw, Am]
      have e5 := Option.some.inj h; subst e5; refine Ap hI5 (IntKind.i64.wrap (v6 + 1)) ?_; refine .same ⟨rfl, ?_, ?_, ?_, ?_⟩ <;> first | with_reducible rfl | with_reducible assumption | (simp -implicitDefEqProofs (disch := omega) [go_sem, Bi, Bb, Aw, Am] <;> omega)
    ·intro c25 h
     try simp (disch := omega) at c25
     try simp -implicitDefEqProofs (disch := omega) [go_sem, Bi, Bb, Aw, Am]
     subst hc15; refine By (by first | with_reducible rfl | (simp -implicitDefEqProofs (disch := omega) [go_sem, Bi, Bb, Aw, Am] <;> omega)) rfl ?_; refine vcK ?_; simp -implicitDefEqProofs only [go_sem]; subst hc12; refine vcK ?_
     try simp -implicitDefEqProofs (disch := omega) [go_sem, Bi, Bb, Aw, Am]
     have e5 := Option.some.inj h; subst e5; refine Ap hI5 (IntKind.i64.wrap (v6 + 1)) ?_; refine .same ⟨rfl, ?_, ?_, ?_, ?_⟩ <;> first | with_reducible rfl | with_reducible assumption | (simp -implicitDefEqProofs (disch := omega) [go_sem, Bi, Bb, Aw, Am] <;> omega)
   ·intro c11 h
    try simp (disch := omega) at c11
    refine vcK ?_; simp -implicitDefEqProofs only [go_sem]; have e5 := Option.some.inj h; subst e5; have hy5 := hret5 _ rfl; refine hc5 _ _ ?_; refine .same ⟨hy5, rfl, by first | with_reducible rfl | with_reducible assumption | (simp -implicitDefEqProofs (disch := omega) [go_sem, Bi, Bb, Aw, Am] <;> omega)⟩
noncomputable def Po (a0 : CC) : Option Bool :=
 (Pn a0.fType).bind fun (x3 : Bool) => if x3 = true then ((F57 a0.fType).bind fun (x4 : (List UInt8)) => if x4 = a0.fType then (if 1 ≤ (a0.A6.length : Int) then (some (decide ((a0.A6.length : Int) ≤ 200))) else (some false)) else (some false)) else (some false)
set_option maxHeartbeats 8000000 in
set_option pp.deepTerms false in
set_option maxRecDepth 60000 in
theorem Rg {H : A0} {K : An → A0 → Prop} (a0 : CC) {r : Bool} (h : Po a0 = some r) (hK : K (.ret (.v (.bool r))) H) : A2 prog 104 [.ag ([.v (str a0.fType), .v (str a0.A6)])] H K := by
 refine Aa (N := 26) func104 (by kernel_rfl) rfl (by kernel_rfl) (by kernel_rfl) fun cb hcb hw hbd hnb => ?_; clear hbd hnb; subst hcb; unfold Po at h; refine A1 fun cb hc1 => ?_; refine vcK ?_
 try simp -implicitDefEqProofs (disch := omega) [go_sem]
 subst hc1; refine A1 fun cb hc2 => ?_; refine CJ [2, 6] [0, 1, 2, 3, 4, 5, 6, 7, 8, 9, 10, 11, 12, 13, 14, 15, 16, 17, 18, 19, 20, 21, 22, 23] (by kernel_rfl) (by kernel_rfl) (fun _ _ _ _ h => h) ?_
 try simp -implicitDefEqProofs (disch := omega) [go_sem]
 obtain ⟨x3, hx3, h⟩ := A4 h; refine Dg.mk _ (fun _ _ hK => A2.eqA (args' := [.v (str a0.fType)]) (by first | with_reducible rfl | (simp -implicitDefEqProofs (disch := omega) [go_sem] <;> omega)) (Rf a0.fType hx3 hK)) ?_
 try simp -implicitDefEqProofs (disch := omega) [go_sem]
 refine A5 h (by first | with_reducible rfl | (simp -implicitDefEqProofs (disch := omega) [go_sem] <;> omega)) ?_ ?_
 ·intro c7 h
  try simp (disch := omega) at c7
  try simp -implicitDefEqProofs (disch := omega) [go_sem]
  obtain ⟨x4, hx4, h⟩ := A4 h; refine Dg.mk _ (fun _ _ hK => A2.eqA (args' := [.v (str a0.fType)]) (by first | with_reducible rfl | (simp -implicitDefEqProofs (disch := omega) [go_sem] <;> omega)) (FL a0.fType hx4 hK)) ?_
  try simp -implicitDefEqProofs (disch := omega) [go_sem]
  refine A5 h (by first | with_reducible rfl | (simp -implicitDefEqProofs (disch := omega) [go_sem] <;> omega)) ?_ ?_
  ·intro c6 h
   try simp (disch := omega) at c6
   try simp -implicitDefEqProofs (disch := omega) [go_sem]
   refine A5 h (by first | with_reducible rfl | (simp -implicitDefEqProofs (disch := omega) [go_sem] <;> omega)) ?_ ?_
   ·intro c5 h
    try simp (disch := omega) at c5
    try simp -implicitDefEqProofs (disch := omega) [go_sem]
    subst hc2; refine vcK ?_; simp -implicitDefEqProofs only [go_sem]; have er := Option.some.inj h; subst er
    try simp -implicitDefEqProofs (disch := omega) [go_sem]
    refine A3 (by exact A7 (Ext.refl hw)) (by first | with_reducible rfl | (simp -implicitDefEqProofs (disch := omega) [go_sem] <;> omega)) nbA hK
   ·intro c5 h
    try simp (disch := omega) at c5
    try simp -implicitDefEqProofs (disch := omega) [go_sem]
    subst hc2; refine vcK ?_; simp -implicitDefEqProofs only [go_sem]; have er := Option.some.inj h; subst er
    try simp -implicitDefEqProofs (disch := omega) [go_sem]
    refine A3 (by exact A7 (Ext.refl hw)) (by first | with_reducible rfl | (simp -implicitDefEqProofs (disch := omega) [go_sem] <;> omega)) nbA hK
  ·intro c6 h
   try simp (disch := omega) at c6
   try simp -implicitDefEqProofs (disch := omega) [go_sem]
   subst hc2; refine vcK ?_; simp -implicitDefEqProofs only [go_sem]; have er := Option.some.inj h; subst er
   try simp -implicitDefEqProofs (disch := omega) [go_sem]
   refine A3 (by exact A7 (Ext.refl hw)) (by first | with_reducible rfl | (simp -implicitDefEqProofs (disch := omega) [go_sem] <;> omega)) nbA hK
 ·intro c7 h
  try simp (disch := omega) at c7
  try simp -implicitDefEqProofs (disch := omega) [go_sem]
  subst hc2; refine vcK ?_; simp -implicitDefEqProofs only [go_sem]; have er := Option.some.inj h; subst er
  try simp -implicitDefEqProofs (disch := omega) [go_sem]
  refine A3 (by exact A7 (Ext.refl hw)) (by first | with_reducible rfl | (simp -implicitDefEqProofs (disch := omega) [go_sem] <;> omega)) nbA hK
noncomputable def Rh (a0 : CC) : Option Bool :=
 (Po a0).bind fun (x3 : Bool) => some (!x3)
set_option maxHeartbeats 8000000 in
set_option pp.deepTerms false in
set_option maxRecDepth 60000 in
theorem Ri {H : A0} {K : An → A0 → Prop} (a0 : CC) (ka1 : Nat) (Ak : H.obj ka1 = some (.cells ([.v (.func (.func 104) #[] #[])]))) {r : Bool} (h : Rh a0 = some r) (hK : K (.ret (.v (.bool r))) H) : A2 prog 135 [.ag ([.v (str a0.fType), .v (str a0.A6)]), .p ka1 0] H K := by
 refine Aa (N := 8) func135 (by kernel_rfl) rfl (by kernel_rfl) (by kernel_rfl) fun cb hcb hw hbd hnb => ?_; clear hbd hnb; subst hcb; unfold Rh at h; have Yn : ka1 < H.next := Nat.lt_of_not_le fun q => by rw [hw _ q] at Ak; cases Ak
 refine A1 fun cb hc1 => ?_; refine vcK ?_
 try simp -implicitDefEqProofs (disch := omega) [go_sem, Ak]
 subst hc1; refine A1 fun cb hc2 => ?_; refine vcK ?_
 try simp -implicitDefEqProofs (disch := omega) [go_sem, Ak]
 obtain ⟨x3, hx3, h⟩ := A4 h; refine A2.eqA (args' := [.ag ([.v (str a0.fType), .v (str a0.A6)])]) (by first | with_reducible rfl | (simp -implicitDefEqProofs (disch := omega) [go_sem, Ak] <;> omega)) (Rg a0 hx3 ?_)
 try simp -implicitDefEqProofs (disch := omega) [go_sem, Ak]
 subst hc2; refine vcK ?_; simp -implicitDefEqProofs only [go_sem]; have er := Option.some.inj h; subst er
 try simp -implicitDefEqProofs (disch := omega) [go_sem, Ak]
 refine A3 (by exact A7 (Ext.refl hw)) (by first | with_reducible rfl | (simp -implicitDefEqProofs (disch := omega) [go_sem, Ak] <;> omega)) nbA hK
noncomputable def HS  : Option Int :=
 some (-1)
noncomputable def Gn (a0 : List CC) (v5 : Int) : Option (Int ⊕ (Unit ⊕ Int)) :=
 if v5 < (a0.length : Int) then (gd (0 ≤ v5 ∧ v5 < a0.length) ((Rh (a0.getD v5.toNat CC.zero)).bind fun (x14 : Bool) => if x14 = true then (some (.inr (.inr v5))) else (some (.inl (IntKind.i64.wrap (v5 + 1)))))) else (some (.inr (.inl ())))
noncomputable def Rj (a0 : List CC) : Option Int :=
 (AY (fun (s : Int) => Gn a0 s) 0).bind fun y => Sum.elim (fun (e : Unit) => HS) (fun (q : Int) => some q) y
set_option maxHeartbeats 8000000 in
set_option pp.deepTerms false in
set_option maxRecDepth 60000 in
theorem Rk {H : A0} {K : An → A0 → Prop} (a0 : List CC) (En : Nat) (Bj : H.obj En = some (.cells ([.v (.func (.func 104) #[] #[])]))) {r : Int} (h : Rj a0 = some r) (hK : K (.ret (.v (.int .i64 r))) H) : A2 prog 162 [.sl 2 (a0.map fun x => [.v (str x.fType), .v (str x.A6)]), .fn (.func 135) [] [.p En 0]] H K := by
 refine Aa (N := 19) func162 (by kernel_rfl) rfl (by kernel_rfl) (by kernel_rfl) fun cb hcb hw hbd hnb => ?_; clear hbd hnb; subst hcb; unfold Rj at h; have TL : En < H.next := Nat.lt_of_not_le fun q => by rw [hw _ q] at Bj; cases Bj
 refine A1 fun cb hc1 => ?_; refine vcK ?_
 try simp -implicitDefEqProofs (disch := omega) [go_sem, Bj]
 subst hc1; refine A1 fun cb hc2 => ?_; refine A1 fun cb hc3 => ?_; refine vcK ?_
 try simp -implicitDefEqProofs (disch := omega) [go_sem, Bj]
 subst hc3; obtain ⟨y4, hl4q, hk4⟩ := A4 h; refine AZ (fun tm' H' => .inl () = y4 ∧ H = H') ?_ fun cb hc4 => ?_
 ·rintro tm4e H4e ⟨rfl, rfl⟩
  have h : HS = some r := hk4; unfold HS at h; simp -implicitDefEqProofs only [go_sem]; subst hc2; refine A1 fun cb hc6 => ?_; refine vcK ?_
  try simp -implicitDefEqProofs (disch := omega) [go_sem, Bj]
  subst hc6; refine vcK ?_; simp -implicitDefEqProofs only [go_sem]; have er := Option.some.inj h; subst er
  try simp -implicitDefEqProofs (disch := omega) [go_sem, Bj]
  refine A3 (by exact A7 (Ext.refl hw)) (by first | with_reducible rfl | (simp -implicitDefEqProofs (disch := omega) [go_sem, Bj] <;> omega)) nbA hK
 ·refine Ag ?_; refine AQ (fun (s : Int) tm' H' => H = H' ∧ tm' 0 = .sl 2 (a0.map fun x => [.v (str x.fType), .v (str x.A6)]) ∧ tm' 1 = .fn (.func 135) [] [.p En 0] ∧ tm' 7 = .v (.int .i64 (a0.length : Int)) ∧ tm' 8 = .v (.int .i64 s)) hl4q ?_ ?_
  ·refine .same ⟨rfl, ?_, ?_, ?_, ?_⟩ <;> first | with_reducible rfl | with_reducible assumption | (simp -implicitDefEqProofs (disch := omega) [go_sem, Bj] <;> omega)
  ·rintro I4 hI4 v5 x4 tm4 H4 ⟨rfl, Ai, AG, AH, AW⟩ h hret4
   replace h : Gn a0 v5 = some x4 := h; unfold Gn at h; refine A1 fun cb hc7 => ?_; refine vcK ?_
   try simp -implicitDefEqProofs (disch := omega) [go_sem, Ai, AG, AH, AW, Bj]
   subst hc7; refine A1 fun cb hc8 => ?_; refine Ac h (by first | with_reducible rfl | (simp -implicitDefEqProofs (disch := omega) [go_sem, Ai, AG, AH, AW, Bj] <;> omega)) rfl ?_ ?_
   ·intro c9 h
    try simp (disch := omega) at c9
    refine vcK ?_; simp -implicitDefEqProofs only [go_sem]; subst hc8; refine A1 fun cb hc10 => ?_; refine Ag ?_; refine A1 fun cb hc11 => ?_; refine vcK ?_
    try simp -implicitDefEqProofs (disch := omega) [go_sem, Ai, AG, AH, AW, Bj]
    subst hc11; refine A1 fun cb hc12 => ?_; refine vcK ?_; obtain ⟨g13, h⟩ := A8.1 h
    try simp (disch := omega) at g13
    try simp -implicitDefEqProofs (disch := omega) [go_sem, Ai, AG, AH, AW, Bj]
    obtain ⟨x14, hx14, h⟩ := A4 h; refine A2.eqA (args' := [.ag ([.v (str ((a0.getD v5.toNat CC.zero).fType)), .v (str ((a0.getD v5.toNat CC.zero).A6))]), .p En 0]) (by first | with_reducible rfl | (simp -implicitDefEqProofs (disch := omega) [go_sem, Ai, AG, AH, AW, Bj] <;> omega)) (Ri (a0.getD v5.toNat CC.zero) En (by first | with_reducible assumption | simp -implicitDefEqProofs (disch := omega) [go_sem, Ai, AG, AH, AW, Bj]) hx14 ?_)
    try simp -implicitDefEqProofs (disch := omega) [go_sem, Ai, AG, AH, AW, Bj]
    subst hc12; refine Ac h (by first | with_reducible rfl | (simp -implicitDefEqProofs (disch := omega) [go_sem, Ai, AG, AH, AW, Bj] <;> omega)) rfl ?_ ?_
    ·intro c15 h
     try simp (disch := omega) at c15
     refine A1 fun cb hc16 => ?_; refine vcK ?_
     try simp -implicitDefEqProofs (disch := omega) [go_sem, Ai, AG, AH, AW, Bj]
     subst hc16; refine vcK ?_; simp -implicitDefEqProofs only [go_sem]; have e4 := Option.some.inj h; subst e4; have e4 := hret4 _ rfl; subst e4; replace h : some v5 = some r := hk4; have er := Option.some.inj h; subst er
     try simp -implicitDefEqProofs (disch := omega) [go_sem, Ai, AG, AH, AW, Bj]
     refine A3 (by exact A7 (Ext.refl hw)) (by first | with_reducible rfl | (simp -implicitDefEqProofs (disch := omega) [go_sem, Ai, AG, AH, AW, Bj] <;> omega)) nbA hK
    ·intro c15 h
     try simp (disch := omega) at c15
     refine vcK ?_; simp -implicitDefEqProofs only [go_sem]; subst hc10; refine vcK ?_
     try simp -implicitDefEqProofs (disch := omega) [go_sem, Ai, AG, AH, AW, Bj]
     have e4 := Option.some.inj h; subst e4; refine Ap hI4 (IntKind.i64.wrap (v5 + 1)) ?_; refine .same ⟨rfl, ?_, ?_, ?_, ?_⟩ <;> first | with_reducible rfl | with_reducible assumption | (simp -implicitDefEqProofs (disch := omega) [go_sem, Ai, AG, AH, AW, Bj] <;> omega)
   ·intro c9 h
    try simp (disch := omega) at c9
    refine vcK ?_; simp -implicitDefEqProofs only [go_sem]; have e4 := Option.some.inj h; subst e4; have hy4 := hret4 _ rfl; refine hc4 _ _ ?_; refine .same ⟨hy4, rfl⟩
end Go.Idl
namespace Go.Idl
open Go Go.Proofs.Tryz
noncomputable def Pp (a0 : List CC) : Option Bool :=
 (Rj a0).bind fun (x3 : Int) => some (decide (0 ≤ x3))
set_option maxHeartbeats 8000000 in
set_option pp.deepTerms false in
set_option maxRecDepth 60000 in
theorem Rl {H : A0} {K : An → A0 → Prop} (a0 : List CC) (En : Nat) (Bj : H.obj En = some (.cells ([.v (.func (.func 104) #[] #[])]))) {r : Bool} (h : Pp a0 = some r) (hK : K (.ret (.v (.bool r))) H) : A2 prog 134 [.sl 2 (a0.map fun x => [.v (str x.fType), .v (str x.A6)]), .fn (.func 135) [] [.p En 0]] H K := by
 refine Aa (N := 9) func134 (by kernel_rfl) rfl (by kernel_rfl) (by kernel_rfl) fun cb hcb hw hbd hnb => ?_; clear hbd hnb; subst hcb; unfold Pp at h; have TL : En < H.next := Nat.lt_of_not_le fun q => by rw [hw _ q] at Bj; cases Bj
 refine A1 fun cb hc1 => ?_; refine vcK ?_
 try simp -implicitDefEqProofs (disch := omega) [go_sem, Bj]
 subst hc1; refine A1 fun cb hc2 => ?_; refine vcK ?_
 try simp -implicitDefEqProofs (disch := omega) [go_sem, Bj]
 obtain ⟨x3, hx3, h⟩ := A4 h; refine A2.eqA (args' := [.sl 2 (a0.map fun x => [.v (str x.fType), .v (str x.A6)]), .fn (.func 135) [] [.p En 0]]) (by first | with_reducible rfl | (simp -implicitDefEqProofs (disch := omega) [go_sem, Bj] <;> omega)) (Rk a0 En (by first | with_reducible assumption | simp -implicitDefEqProofs (disch := omega) [go_sem, Bj]) hx3 ?_)
 try simp -implicitDefEqProofs (disch := omega) [go_sem, Bj]
 subst hc2; refine vcK ?_; simp -implicitDefEqProofs only [go_sem]; have er := Option.some.inj h; subst er
 try simp -implicitDefEqProofs (disch := omega) [go_sem, Bj]
 refine A3 (by exact A7 (Ext.refl hw)) (by first | with_reducible rfl | (simp -implicitDefEqProofs (disch := omega) [go_sem, Bj] <;> omega)) nbA hK
noncomputable def Rm (a0 : List CC) : Option Bool :=
 (Pp a0).bind fun (x3 : Bool) => some (!x3)
set_option maxHeartbeats 8000000 in
set_option pp.deepTerms false in
set_option maxRecDepth 60000 in
theorem Ro {H : A0} {K : An → A0 → Prop} (a0 : List CC) {r : Bool} (h : Rm a0 = some r) (hK : K (.ret (.v (.bool r))) H) : A2 prog 106 [.sl 2 (a0.map fun x => [.v (str x.fType), .v (str x.A6)]), .v (.func (.func 104) #[] #[])] H K := by
 refine Aa (N := 9) func106 (by kernel_rfl) rfl (by kernel_rfl) (by kernel_rfl) fun cb hcb hw hbd hnb => ?_; clear hbd hnb; subst hcb; unfold Rm at h; refine A1 fun cb hc1 => ?_; refine vcK ?_
 try simp -implicitDefEqProofs (disch := omega) [go_sem]
 subst hc1; refine A1 fun cb hc2 => ?_; refine vcK ?_
 try simp -implicitDefEqProofs (disch := omega) [go_sem]
 obtain ⟨x3, hx3, h⟩ := A4 h; refine A2.eqA (args' := [.sl 2 (a0.map fun x => [.v (str x.fType), .v (str x.A6)]), .fn (.func 135) [] [.p H.next 0]]) (by first | with_reducible rfl | (simp -implicitDefEqProofs (disch := omega) [go_sem] <;> omega)) (Rl a0 H.next (by first | with_reducible assumption | simp -implicitDefEqProofs (disch := omega) [go_sem]) hx3 ?_)
 try simp -implicitDefEqProofs (disch := omega) [go_sem]
 subst hc2; refine vcK ?_; simp -implicitDefEqProofs only [go_sem]; have er := Option.some.inj h; subst er
 try simp -implicitDefEqProofs (disch := omega) [go_sem]
 refine A3 (by exact A7 (Ext.refl hw)) (by first | with_reducible rfl | (simp -implicitDefEqProofs (disch := omega) [go_sem] <;> omega)) nbA hK
noncomputable def F79 (a0 : List CC) : Option Int :=
 if 16 < (a0.length : Int) then (some 2) else ((Rm a0).bind fun (x6 : Bool) => if ¬ (x6 = true) then (some 2) else (some 0))
set_option maxHeartbeats 8000000 in
set_option pp.deepTerms false in
set_option maxRecDepth 60000 in
theorem TM {H : A0} {K : An → A0 → Prop} (a0 : List CC) {r : Int} (h : F79 a0 = some r) (hK : K (.ret (.v (.int .i64 r))) H) : A2 prog 79 [.sl 2 (a0.map fun x => [.v (str x.fType), .v (str x.A6)])] H K := by
 refine Aa (N := 13) func79 (by kernel_rfl) rfl (by kernel_rfl) (by kernel_rfl) fun cb hcb hw hbd hnb => ?_; clear hbd hnb; subst hcb; unfold F79 at h; refine A1 fun cb hc1 => ?_; refine vcK ?_
 try simp -implicitDefEqProofs (disch := omega) [go_sem]
 subst hc1; refine A1 fun cb hc2 => ?_; refine vcK ?_
 try simp -implicitDefEqProofs (disch := omega) [go_sem]
 subst hc2; refine A1 fun cb hc3 => ?_; refine A1 fun cb hc4 => ?_; refine vcK ?_
 try simp -implicitDefEqProofs (disch := omega) [go_sem]
 refine A5 h (by first | with_reducible rfl | (simp -implicitDefEqProofs (disch := omega) [go_sem] <;> omega)) ?_ ?_
 ·intro c10 h
  try simp (disch := omega) at c10
  try simp -implicitDefEqProofs (disch := omega) [go_sem]
  subst hc4; refine Aq (by first | with_reducible rfl | (simp -implicitDefEqProofs (disch := omega) [go_sem] <;> omega)) rfl ?_; refine A1 fun cb hc5 => ?_; refine vcK ?_
  try simp -implicitDefEqProofs (disch := omega) [go_sem]
  subst hc5; refine vcK ?_; simp -implicitDefEqProofs only [go_sem]; have er := Option.some.inj h; subst er
  try simp -implicitDefEqProofs (disch := omega) [go_sem]
  refine A3 (by exact A7 (Ext.refl hw)) (by first | with_reducible rfl | (simp -implicitDefEqProofs (disch := omega) [go_sem] <;> omega)) nbA hK
 ·intro c10 h
  try simp (disch := omega) at c10
  try simp -implicitDefEqProofs (disch := omega) [go_sem]
  obtain ⟨x6, hx6, h⟩ := A4 h; refine A2.eqA (args' := [.sl 2 (a0.map fun x => [.v (str x.fType), .v (str x.A6)]), .v (.func (.func 104) #[] #[])]) (by first | with_reducible rfl | (simp -implicitDefEqProofs (disch := omega) [go_sem] <;> omega)) (Ro a0 hx6 ?_)
  try simp -implicitDefEqProofs (disch := omega) [go_sem]
  subst hc4; refine Ac h (by first | with_reducible rfl | (simp -implicitDefEqProofs (disch := omega) [go_sem] <;> omega)) rfl ?_ ?_
  ·intro c7 h
   try simp (disch := omega) at c7
   refine A1 fun cb hc8 => ?_; refine vcK ?_
   try simp -implicitDefEqProofs (disch := omega) [go_sem]
   subst hc8; refine vcK ?_; simp -implicitDefEqProofs only [go_sem]; have er := Option.some.inj h; subst er
   try simp -implicitDefEqProofs (disch := omega) [go_sem]
   refine A3 (by exact A7 (Ext.refl hw)) (by first | with_reducible rfl | (simp -implicitDefEqProofs (disch := omega) [go_sem] <;> omega)) nbA hK
  ·intro c7 h
   try simp (disch := omega) at c7
   refine vcK ?_; simp -implicitDefEqProofs only [go_sem]; subst hc3; refine A1 fun cb hc9 => ?_; refine vcK ?_
   try simp -implicitDefEqProofs (disch := omega) [go_sem]
   subst hc9; refine vcK ?_; simp -implicitDefEqProofs only [go_sem]; have er := Option.some.inj h; subst er
   try simp -implicitDefEqProofs (disch := omega) [go_sem]
   refine A3 (by exact A7 (Ext.refl hw)) (by first | with_reducible rfl | (simp -implicitDefEqProofs (disch := omega) [go_sem] <;> omega)) nbA hK
noncomputable def F56 (a0 : List UInt8) : Option Bool :=
 (F57 a0).bind fun (x3 : (List UInt8)) => (F79 ([(⟨x3, [120]⟩ : CC)])).bind fun (x4 : Int) => some (decide (x4 = 0))
set_option maxHeartbeats 8000000 in
set_option pp.deepTerms false in
set_option maxRecDepth 60000 in
theorem Pq {H : A0} {K : An → A0 → Prop} (a0 : List UInt8) {r : Bool} (h : F56 a0 = some r) (hK : K (.ret (.v (.bool r))) H) : A2 prog 56 [.v (str a0)] H K := by
 refine Aa (N := 9) func56 (by kernel_rfl) rfl (by kernel_rfl) (by kernel_rfl) fun cb hcb hw hbd hnb => ?_; clear hbd hnb; subst hcb; unfold F56 at h; refine A1 fun cb hc1 => ?_; refine vcK ?_
 try simp -implicitDefEqProofs (disch := omega) [go_sem, bdP]
 subst hc1; refine A1 fun cb hc2 => ?_; refine vcK ?_
 try simp -implicitDefEqProofs (disch := omega) [go_sem, bdP]
 obtain ⟨x3, hx3, h⟩ := A4 h; refine A2.eqA (args' := [.v (str a0)]) (by first | with_reducible rfl | (simp -implicitDefEqProofs (disch := omega) [go_sem, bdP] <;> omega)) (FL a0 hx3 ?_)
 try simp -implicitDefEqProofs (disch := omega) [go_sem, bdP]
 obtain ⟨x4, hx4, h⟩ := A4 h; refine A2.eqA (args' := [.sl 2 (([(⟨x3, [120]⟩ : CC)]).map fun x => [.v (str x.fType), .v (str x.A6)])]) (by first | with_reducible rfl | (simp -implicitDefEqProofs (disch := omega) [go_sem, bdP] <;> omega)) (TM ([(⟨x3, [120]⟩ : CC)]) hx4 ?_)
 try simp -implicitDefEqProofs (disch := omega) [go_sem, bdP]
 subst hc2; refine vcK ?_; simp -implicitDefEqProofs only [go_sem]; have er := Option.some.inj h; subst er
 try simp -implicitDefEqProofs (disch := omega) [go_sem, bdP]
 refine A3 (by exact A7 (Ext.refl hw)) (by first | with_reducible rfl | (simp -implicitDefEqProofs (disch := omega) [go_sem, bdP] <;> omega)) nbA hK
noncomputable def F81 (a0 : Int) : Option Bool :=
 if 32 ≤ a0 then (some (decide (a0 ≤ 126))) else (some false)
set_option maxHeartbeats 8000000 in
set_option pp.deepTerms false in
set_option maxRecDepth 60000 in
theorem TN {H : A0} {K : An → A0 → Prop} (a0 : Int) {r : Bool} (h : F81 a0 = some r) (hK : K (.ret (.v (.bool r))) H) : A2 prog 81 [.v (.int .u8 a0)] H K := by
 refine Aa (N := 9) func81 (by kernel_rfl) rfl (by kernel_rfl) (by kernel_rfl) fun cb hcb hw hbd hnb => ?_; clear hbd hnb; subst hcb; unfold F81 at h; refine A1 fun cb hc1 => ?_; refine vcK ?_
 try simp -implicitDefEqProofs (disch := omega) [go_sem]
 subst hc1; refine A1 fun cb hc2 => ?_; refine vcK ?_
 try simp -implicitDefEqProofs (disch := omega) [go_sem]
 refine A5 h (by first | with_reducible rfl | (simp -implicitDefEqProofs (disch := omega) [go_sem] <;> omega)) ?_ ?_
 ·intro c3 h
  try simp (disch := omega) at c3
  try simp -implicitDefEqProofs (disch := omega) [go_sem]
  subst hc2; refine vcK ?_; simp -implicitDefEqProofs only [go_sem]; have er := Option.some.inj h; subst er
  try simp -implicitDefEqProofs (disch := omega) [go_sem]
  refine A3 (by exact A7 (Ext.refl hw)) (by first | with_reducible rfl | (simp -implicitDefEqProofs (disch := omega) [go_sem] <;> omega)) nbA hK
 ·intro c3 h
  try simp (disch := omega) at c3
  try simp -implicitDefEqProofs (disch := omega) [go_sem]
  subst hc2; refine vcK ?_; simp -implicitDefEqProofs only [go_sem]; have er := Option.some.inj h; subst er
  try simp -implicitDefEqProofs (disch := omega) [go_sem]
  refine A3 (by exact A7 (Ext.refl hw)) (by first | with_reducible rfl | (simp -implicitDefEqProofs (disch := omega) [go_sem] <;> omega)) nbA hK
noncomputable def Gp  : Option Bool :=
 some true
noncomputable def EK (a0 : List UInt8) (v6 : Int) : Option (Int ⊕ (Unit ⊕ Bool)) :=
 if v6 < (a0.length : Int) then (gd (0 ≤ v6 ∧ v6 < a0.length) ((F81 (((a0.getD v6.toNat 0).toNat : Int))).bind fun (x15 : Bool) => if ¬ (x15 = true) then (some (.inr (.inr false))) else (some (.inl (IntKind.i64.wrap (v6 + 1)))))) else (some (.inr (.inl ())))
noncomputable def LF (a0 : List UInt8) : Option Bool :=
 gd ((a0.length : Int) ≤ 9223372036854775807) ((AY (fun (s : Int) => EK a0 s) 0).bind fun y => Sum.elim (fun (e : Unit) => Gp) (fun (q : Bool) => some q) y)
set_option maxHeartbeats 8000000 in
set_option pp.deepTerms false in
set_option maxRecDepth 60000 in
theorem Pt {H : A0} {K : An → A0 → Prop} (a0 : List UInt8) {r : Bool} (h : LF a0 = some r) (hK : K (.ret (.v (.bool r))) H) : A2 prog 34 [.v (str a0), .v (.func (.func 81) #[] #[])] H K := by
 refine Aa (N := 19) func34 (by kernel_rfl) rfl (by kernel_rfl) (by kernel_rfl) fun cb hcb hw hbd hnb => ?_; clear hbd hnb; subst hcb; unfold LF at h; refine A1 fun cb hc1 => ?_; refine vcK ?_
 try simp -implicitDefEqProofs (disch := omega) [go_sem]
 subst hc1; refine A1 fun cb hc2 => ?_; refine A1 fun cb hc3 => ?_; refine vcK ?_; obtain ⟨g4, h⟩ := A8.1 h
 try simp (disch := omega) at g4
 try simp -implicitDefEqProofs (disch := omega) [go_sem]
 refine CQ a0 rfl (by kernel_rfl) underlying9 underlying23 underlying5 (by first | with_reducible rfl | (simp -implicitDefEqProofs (disch := omega) [go_sem]; done) | rfl) (by first | omega | decide | (simp; omega) | (simp (disch := omega); omega)) ?_
 try simp -implicitDefEqProofs (disch := omega) [go_sem]
 subst hc3; obtain ⟨y5, hl5q, hk5⟩ := A4 h; refine AZ (fun tm' H' => .inl () = y5 ∧ H = H') ?_ fun cb hc5 => ?_
 ·rintro tm5e H5e ⟨rfl, rfl⟩
  have h : Gp = some r := hk5; unfold Gp at h; simp -implicitDefEqProofs only [go_sem]; subst hc2; refine A1 fun cb hc7 => ?_; refine vcK ?_
  try simp -implicitDefEqProofs (disch := omega) [go_sem]
  subst hc7; refine vcK ?_; simp -implicitDefEqProofs only [go_sem]; have er := Option.some.inj h; subst er
  try simp -implicitDefEqProofs (disch := omega) [go_sem]
  refine A3 (by exact A7 (Ext.refl hw)) (by first | with_reducible rfl | (simp -implicitDefEqProofs (disch := omega) [go_sem] <;> omega)) nbA hK
 ·refine Ag ?_; refine AQ (fun (s : Int) tm' H' => H = H' ∧ tm' 1 = .v (.func (.func 81) #[] #[]) ∧ tm' 8 = .sl 1 (a0.map fun x => [.v (.int .u8 x.toNat)]) ∧ tm' 9 = .v (.int .i64 (a0.length : Int)) ∧ tm' 10 = .v (.int .i64 s)) hl5q ?_ ?_
  ·refine .same ⟨rfl, ?_, ?_, ?_, ?_⟩ <;> first | with_reducible rfl | with_reducible assumption | (simp -implicitDefEqProofs (disch := omega) [go_sem] <;> omega)
  ·rintro I5 hI5 v6 x5 tm5 H5 ⟨rfl, BB, Am, BC, AS⟩ h hret5
   replace h : EK a0 v6 = some x5 := h; unfold EK at h; refine A1 fun cb hc8 => ?_; refine vcK ?_
   try simp -implicitDefEqProofs (disch := omega) [go_sem, BB, Am, BC, AS]
   subst hc8; refine A1 fun cb hc9 => ?_; refine Ac h (by first | with_reducible rfl | (simp -implicitDefEqProofs (disch := omega) [go_sem, BB, Am, BC, AS] <;> omega)) rfl ?_ ?_
   ·intro c10 h
    try simp (disch := omega) at c10
    refine vcK ?_; simp -implicitDefEqProofs only [go_sem]; subst hc9; refine A1 fun cb hc11 => ?_; refine Ag ?_; refine A1 fun cb hc12 => ?_; refine vcK ?_; obtain ⟨g13, h⟩ := A8.1 h
    try simp (disch := omega) at g13
    try simp -implicitDefEqProofs (disch := omega) [go_sem, BB, Am, BC, AS]
    subst hc12; refine A1 fun cb hc14 => ?_; refine vcK ?_
    try simp -implicitDefEqProofs (disch := omega) [go_sem, BB, Am, BC, AS]
    obtain ⟨x15, hx15, h⟩ := A4 h; refine A2.eqA (args' := [.v (.int .u8 (((a0.getD v6.toNat 0).toNat : Int)))]) (by first | with_reducible rfl | (simp -implicitDefEqProofs (disch := omega) [go_sem, BB, Am, BC, AS] <;> omega)) (TN (((a0.getD v6.toNat 0).toNat : Int)) hx15 ?_)
    try simp -implicitDefEqProofs (disch := omega) [go_sem, BB, Am, BC, AS]
    subst hc14; refine Ac h (by first | with_reducible rfl | (simp -implicitDefEqProofs (disch := omega) [go_sem, BB, Am, BC, AS] <;> omega)) rfl ?_ ?_
    ·intro c16 h
     try simp (disch := omega) at c16
     refine A1 fun cb hc17 => ?_; refine vcK ?_
     try simp -implicitDefEqProofs (disch := omega) [go_sem, BB, Am, BC, AS]
     subst hc17; refine vcK ?_; simp -implicitDefEqProofs only [go_sem]; have e5 := Option.some.inj h; subst e5; have e5 := hret5 _ rfl; subst e5; replace h : some false = some r := hk5; have er := Option.some.inj h; subst er
     try simp -implicitDefEqProofs (disch := omega) [go_sem, BB, Am, BC, AS]
     refine A3 (by exact A7 (Ext.refl hw)) (by first | with_reducible rfl | (simp -implicitDefEqProofs (disch := omega) [go_sem, BB, Am, BC, AS] <;> omega)) nbA hK
    ·intro c16 h
     try simp (disch := omega) at c16
     refine vcK ?_; simp -implicitDefEqProofs only [go_sem]; subst hc11; refine vcK ?_
     try simp -implicitDefEqProofs (disch := omega) [go_sem, BB, Am, BC, AS]
     have e5 := Option.some.inj h; subst e5; refine Ap hI5 (IntKind.i64.wrap (v6 + 1)) ?_; refine .same ⟨rfl, ?_, ?_, ?_, ?_⟩ <;> first | with_reducible rfl | with_reducible assumption | (simp -implicitDefEqProofs (disch := omega) [go_sem, BB, Am, BC, AS] <;> omega)
   ·intro c10 h
    try simp (disch := omega) at c10
    refine vcK ?_; simp -implicitDefEqProofs only [go_sem]; have e5 := Option.some.inj h; subst e5; have hy5 := hret5 _ rfl; refine hc5 _ _ ?_; refine .same ⟨hy5, rfl⟩
noncomputable def F58 (a0 : List UInt8) : Option Bool :=
 if (a0.length : Int) ≤ 200 then ((F80 a0 ([32])).bind fun (x3 : (List UInt8)) => if x3 = a0 then ((LF a0).bind fun (x4 : Bool) => some x4) else (some false)) else (some false)
set_option maxHeartbeats 8000000 in
set_option pp.deepTerms false in
set_option maxRecDepth 60000 in
theorem Pv {H : A0} {K : An → A0 → Prop} (a0 : List UInt8) {r : Bool} (h : F58 a0 = some r) (hK : K (.ret (.v (.bool r))) H) : A2 prog 58 [.v (str a0)] H K := by
 refine Aa (N := 16) func58 (by kernel_rfl) rfl (by kernel_rfl) (by kernel_rfl) fun cb hcb hw hbd hnb => ?_; clear hbd hnb; subst hcb; unfold F58 at h; refine A1 fun cb hc1 => ?_; refine vcK ?_
 try simp -implicitDefEqProofs (disch := omega) [go_sem]
 subst hc1; refine A1 fun cb hc2 => ?_; refine vcK ?_
 try simp -implicitDefEqProofs (disch := omega) [go_sem]
 refine A5 h (by first | with_reducible rfl | (simp -implicitDefEqProofs (disch := omega) [go_sem] <;> omega)) ?_ ?_
 ·intro c6 h
  try simp (disch := omega) at c6
  try simp -implicitDefEqProofs (disch := omega) [go_sem]
  obtain ⟨x3, hx3, h⟩ := A4 h; refine A2.eqA (args' := [.v (str a0), .v (str ([32]))]) (by first | with_reducible rfl | (simp -implicitDefEqProofs (disch := omega) [go_sem] <;> omega)) (MJ a0 ([32]) hx3 ?_)
  try simp -implicitDefEqProofs (disch := omega) [go_sem]
  refine A5 h (by first | with_reducible rfl | (simp -implicitDefEqProofs (disch := omega) [go_sem] <;> omega)) ?_ ?_
  ·intro c5 h
   try simp (disch := omega) at c5
   try simp -implicitDefEqProofs (disch := omega) [go_sem]
   obtain ⟨x4, hx4, h⟩ := A4 h; refine A2.eqA (args' := [.v (str a0), .v (.func (.func 81) #[] #[])]) (by first | with_reducible rfl | (simp -implicitDefEqProofs (disch := omega) [go_sem] <;> omega)) (Pt a0 hx4 ?_)
   try simp -implicitDefEqProofs (disch := omega) [go_sem]
   subst hc2; refine vcK ?_; simp -implicitDefEqProofs only [go_sem]; have er := Option.some.inj h; subst er
   try simp -implicitDefEqProofs (disch := omega) [go_sem]
   refine A3 (by exact A7 (Ext.refl hw)) (by first | with_reducible rfl | (simp -implicitDefEqProofs (disch := omega) [go_sem] <;> omega)) nbA hK
  ·intro c5 h
   try simp (disch := omega) at c5
   try simp -implicitDefEqProofs (disch := omega) [go_sem]
   subst hc2; refine vcK ?_; simp -implicitDefEqProofs only [go_sem]; have er := Option.some.inj h; subst er
   try simp -implicitDefEqProofs (disch := omega) [go_sem]
   refine A3 (by exact A7 (Ext.refl hw)) (by first | with_reducible rfl | (simp -implicitDefEqProofs (disch := omega) [go_sem] <;> omega)) nbA hK
 ·intro c6 h
  try simp (disch := omega) at c6
  try simp -implicitDefEqProofs (disch := omega) [go_sem]
  subst hc2; refine vcK ?_; simp -implicitDefEqProofs only [go_sem]; have er := Option.some.inj h; subst er
  try simp -implicitDefEqProofs (disch := omega) [go_sem]
  refine A3 (by exact A7 (Ext.refl hw)) (by first | with_reducible rfl | (simp -implicitDefEqProofs (disch := omega) [go_sem] <;> omega)) nbA hK
noncomputable def Kw (a0 : List S55) (a1 : List UInt8) : Option Bool :=
 if (a0.length : Int) ≤ 16 then (some (decide ((a1.length : Int) ≤ 60000))) else (some false)
noncomputable def EL (a0 : List S55) (v5 : Int) : Option (Int ⊕ (Unit ⊕ Bool)) :=
 if v5 < (a0.length : Int) then (gd (0 ≤ v5 ∧ v5 < a0.length) ((F56 ((a0.getD v5.toNat S55.zero).fName)).bind fun (x15 : Bool) => if ¬ (x15 = true) then (some (.inr (.inr false))) else ((F57 ((a0.getD v5.toNat S55.zero).fName)).bind fun (x17 : (List UInt8)) => if ¬ x17 = ((a0.getD v5.toNat S55.zero).fName) then (some (.inr (.inr false))) else ((F58 ((a0.getD v5.toNat S55.zero).A6)).bind fun (x19 : Bool) => if ¬ (x19 = true) then (some (.inr (.inr false))) else (if ((a0.getD v5.toNat S55.zero).fName) = ([99, 111, 110, 116, 101, 110, 116, 45, 108, 101, 110, 103, 116, 104]) then (some (.inr (.inr false))) else (if ((a0.getD v5.toNat S55.zero).fName) = ([116, 114, 97, 110, 115, 102, 101, 114, 45, 101, 110, 99, 111, 100, 105, 110, 103]) then (some (.inr (.inr false))) else (if 0 < v5 then (gd (0 ≤ (IntKind.i64.wrap (v5 - 1)) ∧ (IntKind.i64.wrap (v5 - 1)) < a0.length) (if ¬ Op.bytesLess ((a0.getD (IntKind.i64.wrap (v5 - 1)).toNat S55.zero).fName) ((a0.getD v5.toNat S55.zero).fName) = true then (some (.inr (.inr false))) else (some (.inl (IntKind.i64.wrap (v5 + 1)))))) else (some (.inl (IntKind.i64.wrap (v5 + 1))))))))))) else (some (.inr (.inl ())))
noncomputable def F27 (a0 : List S55) (a1 : List UInt8) : Option Bool :=
 (AY (fun (s : Int) => EL a0 s) 0).bind fun y => Sum.elim (fun (e : Unit) => Kw a0 a1) (fun (q : Bool) => some q) y
set_option maxHeartbeats 8000000 in
set_option pp.deepTerms false in
set_option maxRecDepth 60000 in
theorem ML {H : A0} {K : An → A0 → Prop} (a0 : List S55) (a1 : List UInt8) {r : Bool} (h : F27 a0 a1 = some r) (hK : K (.ret (.v (.bool r))) H) : A2 prog 27 [.sl 2 (a0.map fun x => [.v (str x.fName), .v (str x.A6)]), .sl 1 (a1.map fun x => [.v (.int .u8 x.toNat)])] H K := by
 refine Aa (N := 66) func27 (by kernel_rfl) rfl (by kernel_rfl) (by kernel_rfl) fun cb hcb hw hbd hnb => ?_; clear hbd hnb; subst hcb; unfold F27 at h; refine A1 fun cb hc1 => ?_; refine vcK ?_
 try simp -implicitDefEqProofs (disch := omega) [go_sem]
 subst hc1; refine A1 fun cb hc2 => ?_; refine A1 fun cb hc3 => ?_; refine vcK ?_
 try simp -implicitDefEqProofs (disch := omega) [go_sem]
 subst hc3; obtain ⟨y4, hl4q, hk4⟩ := A4 h; refine AZ (fun tm' H' => .inl () = y4 ∧ Ext H H' ∧ H.next ≤ H'.next ∧ tm' 0 = .sl 2 (a0.map fun x => [.v (str x.fName), .v (str x.A6)]) ∧ tm' 1 = .sl 1 (a1.map fun x => [.v (.int .u8 x.toNat)])) ?_ fun cb hc4 => ?_
 ·rintro tm4e H4e ⟨rfl, he4e, hl4e, t0_4e, t1_4e⟩
  have h : Kw a0 a1 = some r := hk4; unfold Kw at h; simp -implicitDefEqProofs only [go_sem]; subst hc2; refine A1 fun cb hc6 => ?_; refine vcK ?_
  try simp -implicitDefEqProofs (disch := omega) [go_sem, t0_4e, t1_4e]
  refine A5 h (by first | with_reducible rfl | (simp -implicitDefEqProofs (disch := omega) [go_sem, t0_4e, t1_4e] <;> omega)) ?_ ?_
  ·intro c7 h
   try simp (disch := omega) at c7
   try simp -implicitDefEqProofs (disch := omega) [go_sem, t0_4e, t1_4e]
   subst hc6; refine vcK ?_; simp -implicitDefEqProofs only [go_sem]; have er := Option.some.inj h; subst er
   try simp -implicitDefEqProofs (disch := omega) [go_sem, t0_4e, t1_4e]
   refine A3 (by exact A7 he4e) (by first | with_reducible rfl | (simp -implicitDefEqProofs (disch := omega) [go_sem, t0_4e, t1_4e] <;> omega)) nbA hK
  ·intro c7 h
   try simp (disch := omega) at c7
   try simp -implicitDefEqProofs (disch := omega) [go_sem, t0_4e, t1_4e]
   subst hc6; refine vcK ?_; simp -implicitDefEqProofs only [go_sem]; have er := Option.some.inj h; subst er
   try simp -implicitDefEqProofs (disch := omega) [go_sem, t0_4e, t1_4e]
   refine A3 (by exact A7 he4e) (by first | with_reducible rfl | (simp -implicitDefEqProofs (disch := omega) [go_sem, t0_4e, t1_4e] <;> omega)) nbA hK
 ·refine Ag ?_; refine AQ (fun (s : Int) tm' H' => Ext H H' ∧ H.next ≤ H'.next ∧ tm' 0 = .sl 2 (a0.map fun x => [.v (str x.fName), .v (str x.A6)]) ∧ tm' 1 = .sl 1 (a1.map fun x => [.v (.int .u8 x.toNat)]) ∧ tm' 7 = .sl 2 (a0.map fun x => [.v (str x.fName), .v (str x.A6)]) ∧ tm' 8 = .v (.int .i64 (a0.length : Int)) ∧ tm' 9 = .v (.int .i64 s)) hl4q ?_ ?_
  ·refine .same ⟨by exact A7 (Ext.refl hw), by first | with_reducible rfl | with_reducible assumption | omega | (simp -implicitDefEqProofs (disch := omega) [go_sem] <;> omega), ?_, ?_, ?_, ?_, ?_⟩ <;> first | with_reducible rfl | with_reducible assumption | (simp -implicitDefEqProofs (disch := omega) [go_sem] <;> omega)
  ·rintro I4 hI4 v5 x4 tm4 H4 ⟨he4, hl4, Ai, AG, AH, AW, Bk⟩ h hret4
   replace h : EL a0 v5 = some x4 := h; unfold EL at h; refine A1 fun cb hc8 => ?_; refine vcK ?_
   try simp -implicitDefEqProofs (disch := omega) [go_sem, Ai, AG, AH, AW, Bk]
   subst hc8; refine A1 fun cb hc9 => ?_; refine Ac h (by first | with_reducible rfl | (simp -implicitDefEqProofs (disch := omega) [go_sem, Ai, AG, AH, AW, Bk] <;> omega)) rfl ?_ ?_
   ·intro c10 h
    try simp (disch := omega) at c10
    refine vcK ?_; simp -implicitDefEqProofs only [go_sem]; subst hc9; refine A1 fun cb hc11 => ?_; refine Ag ?_; refine A1 fun cb hc12 => ?_; refine vcK ?_; obtain ⟨g13, h⟩ := A8.1 h
    try simp (disch := omega) at g13
    try simp -implicitDefEqProofs (disch := omega) [go_sem, Ai, AG, AH, AW, Bk]
    subst hc12; refine A1 fun cb hc14 => ?_; refine CJ [2, 7, 15] [0, 1, 2, 3, 4, 5, 6, 7, 8, 9, 10, 11, 12, 13, 14, 15, 16, 17, 18, 19, 20, 21, 22, 23, 24, 25, 26, 27, 28, 29, 30, 31, 32, 33, 34, 35, 36, 37, 38, 39, 40, 41, 42] (by kernel_rfl) (by kernel_rfl) (fun _ _ _ _ h => h) ?_
    try simp -implicitDefEqProofs (disch := omega) [go_sem, Ai, AG, AH, AW, Bk]
    obtain ⟨x15, hx15, h⟩ := A4 h; refine Dg.mk _ (fun _ _ hK => A2.eqA (args' := [.v (str ((a0.getD v5.toNat S55.zero).fName))]) (by first | with_reducible rfl | (simp -implicitDefEqProofs (disch := omega) [go_sem, Ai, AG, AH, AW, Bk] <;> omega)) (Pq ((a0.getD v5.toNat S55.zero).fName) hx15 hK)) ?_
    try simp -implicitDefEqProofs (disch := omega) [go_sem, Ai, AG, AH, AW, Bk]
    refine A5 h (by first | with_reducible rfl | (simp -implicitDefEqProofs (disch := omega) [go_sem, Ai, AG, AH, AW, Bk] <;> omega)) ?_ ?_
    ·intro c31 h
     try simp (disch := omega) at c31
     try simp -implicitDefEqProofs (disch := omega) [go_sem, Ai, AG, AH, AW, Bk]
     subst hc14; refine Aq (by first | with_reducible rfl | (simp -implicitDefEqProofs (disch := omega) [go_sem, Ai, AG, AH, AW, Bk] <;> omega)) rfl ?_; refine A1 fun cb hc16 => ?_; refine vcK ?_
     try simp -implicitDefEqProofs (disch := omega) [go_sem, Ai, AG, AH, AW, Bk]
     subst hc16; refine vcK ?_; simp -implicitDefEqProofs only [go_sem]; have e4 := Option.some.inj h; subst e4; have e4 := hret4 _ rfl; subst e4; replace h : some false = some r := hk4; have er := Option.some.inj h; subst er
     try simp -implicitDefEqProofs (disch := omega) [go_sem, Ai, AG, AH, AW, Bk]
     refine A3 (by exact A7 he4) (by first | with_reducible rfl | (simp -implicitDefEqProofs (disch := omega) [go_sem, Ai, AG, AH, AW, Bk] <;> omega)) nbA hK
    ·intro c31 h
     try simp (disch := omega) at c31
     try simp -implicitDefEqProofs (disch := omega) [go_sem, Ai, AG, AH, AW, Bk]
     obtain ⟨x17, hx17, h⟩ := A4 h; refine Dg.mk _ (fun _ _ hK => A2.eqA (args' := [.v (str ((a0.getD v5.toNat S55.zero).fName))]) (by first | with_reducible rfl | (simp -implicitDefEqProofs (disch := omega) [go_sem, Ai, AG, AH, AW, Bk] <;> omega)) (FL ((a0.getD v5.toNat S55.zero).fName) hx17 hK)) ?_
     try simp -implicitDefEqProofs (disch := omega) [go_sem, Ai, AG, AH, AW, Bk]
     refine A5 h (by first | with_reducible rfl | (simp -implicitDefEqProofs (disch := omega) [go_sem, Ai, AG, AH, AW, Bk] <;> omega)) ?_ ?_
     ·intro c30 h
      try simp (disch := omega) at c30
      try simp -implicitDefEqProofs (disch := omega) [go_sem, Ai, AG, AH, AW, Bk]
      subst hc14; refine Aq (by first | with_reducible rfl | (simp -implicitDefEqProofs (disch := omega) [go_sem, Ai, AG, AH, AW, Bk] <;> omega)) rfl ?_; refine A1 fun cb hc18 => ?_; refine vcK ?_
      try simp -implicitDefEqProofs (disch := omega) [go_sem, Ai, AG, AH, AW, Bk]
      subst hc18; refine vcK ?_; simp -implicitDefEqProofs only [go_sem]; have e4 := Option.some.inj h; subst e4; have e4 := hret4 _ rfl; subst e4; replace h : some false = some r := hk4; have er := Option.some.inj h; subst er
      try simp -implicitDefEqProofs (disch := omega) [go_sem, Ai, AG, AH, AW, Bk]
      refine A3 (by exact A7 he4) (by first | with_reducible rfl | (simp -implicitDefEqProofs (disch := omega) [go_sem, Ai, AG, AH, AW, Bk] <;> omega)) nbA hK
     ·intro c30 h
      try simp (disch := omega) at c30
      try simp -implicitDefEqProofs (disch := omega) [go_sem, Ai, AG, AH, AW, Bk]
      obtain ⟨x19, hx19, h⟩ := A4 h; refine Dg.mk _ (fun _ _ hK => A2.eqA (args' := [.v (str ((a0.getD v5.toNat S55.zero).A6))]) (by first | with_reducible rfl | (simp -implicitDefEqProofs (disch := omega) [go_sem, Ai, AG, AH, AW, Bk] <;> omega)) (Pv ((a0.getD v5.toNat S55.zero).A6) hx19 hK)) ?_
      try simp -implicitDefEqProofs (disch := omega) [go_sem, Ai, AG, AH, AW, Bk]
      refine A5 h (by first | with_reducible rfl | (simp -implicitDefEqProofs (disch := omega) [go_sem, Ai, AG, AH, AW, Bk] <;> omega)) ?_ ?_
      ·intro c29 h
       try simp (disch := omega) at c29
       try simp -implicitDefEqProofs (disch := omega) [go_sem, Ai, AG, AH, AW, Bk]
       subst hc14; refine Aq (by first | with_reducible rfl | (simp -implicitDefEqProofs (disch := omega) [go_sem, Ai, AG, AH, AW, Bk] <;> omega)) rfl ?_; refine A1 fun cb hc20 => ?_; refine vcK ?_
       try simp -implicitDefEqProofs (disch := omega) [go_sem, Ai, AG, AH, AW, Bk]
       subst hc20; refine vcK ?_; simp -implicitDefEqProofs only [go_sem]; have e4 := Option.some.inj h; subst e4; have e4 := hret4 _ rfl; subst e4; replace h : some false = some r := hk4; have er := Option.some.inj h; subst er
       try simp -implicitDefEqProofs (disch := omega) [go_sem, Ai, AG, AH, AW, Bk]
       refine A3 (by exact A7 he4) (by first | with_reducible rfl | (simp -implicitDefEqProofs (disch := omega) [go_sem, Ai, AG, AH, AW, Bk] <;> omega)) nbA hK
      ·intro c29 h
       try simp (disch := omega) at c29
       try simp -implicitDefEqProofs (disch := omega) [go_sem, Ai, AG, AH, AW, Bk]
       refine A5 h (by first | with_reducible rfl | (simp -implicitDefEqProofs (disch := omega) [go_sem, Ai, AG, AH, AW, Bk] <;> omega)) ?_ ?_
       ·intro c28 h
        try simp (disch := omega) at c28
        try simp -implicitDefEqProofs (disch := omega) [go_sem, Ai, AG, AH, AW, Bk]
        subst hc14; refine Aq (by first | with_reducible rfl | (simp -implicitDefEqProofs (disch := omega) [go_sem, Ai, AG, AH, AW, Bk] <;> omega)) rfl ?_; refine A1 fun cb hc21 => ?_; refine vcK ?_
        try simp -implicitDefEqProofs (disch := omega) [go_sem, Ai, AG, AH, AW, Bk]
        subst hc21; refine vcK ?_; simp -implicitDefEqProofs only [go_sem]; have e4 := Option.some.inj h; subst e4; have e4 := hret4 _ rfl; subst e4; replace h : some false = some r := hk4; have er := Option.some.inj h; subst er
        try simp -implicitDefEqProofs (disch := omega) [go_sem, Ai, AG, AH, AW, Bk]
        refine A3 (by exact A7 he4) (by first | with_reducible rfl | (simp -implicitDefEqProofs (disch := omega) [go_sem, Ai, AG, AH, AW, Bk] <;> omega)) nbA hK
       ·intro c28 h
        try simp (disch := omega) at c28
        try simp -implicitDefEqProofs (disch := omega) [go_sem, Ai, AG, AH, AW, Bk]
        refine A5 h (by first | with_reducible rfl | (simp -implicitDefEqProofs (disch := omega) [go_sem, Ai, AG, AH, AW, Bk] <;> omega)) ?_ ?_
        ·intro c27 h
         try simp (disch := omega) at c27
         try simp -implicitDefEqProofs (disch := omega) [go_sem, Ai, AG, AH, AW, Bk]
         subst hc14; refine Aq (by first | with_reducible rfl | (simp -implicitDefEqProofs (disch := omega) [go_sem, Ai, AG, AH, AW, Bk] <;> omega)) rfl ?_; refine A1 fun cb hc22 => ?_; refine vcK ?_
         try simp -implicitDefEqProofs (disch := omega) [go_sem, Ai, AG, AH, AW, Bk]
         subst hc22; refine vcK ?_; simp -implicitDefEqProofs only [go_sem]; have e4 := Option.some.inj h; subst e4; have e4 := hret4 _ rfl; subst e4; replace h : some false = some r := hk4; have er := Option.some.inj h; subst er
         try simp -implicitDefEqProofs (disch := omega) [go_sem, Ai, AG, AH, AW, Bk]
         refine A3 (by exact A7 he4) (by first | with_reducible rfl | (simp -implicitDefEqProofs (disch := omega) [go_sem, Ai, AG, AH, AW, Bk] <;> omega)) nbA hK
        ·intro c27 h
         try simp (disch := omega) at c27
         try simp -implicitDefEqProofs (disch := omega) [go_sem, Ai, AG, AH, AW, Bk]
         refine A5 h (by first | with_reducible rfl | (simp -implicitDefEqProofs (disch := omega) [go_sem, Ai, AG, AH, AW, Bk] <;> omega)) ?_ ?_
         ·intro c26 h
          try simp (disch := omega) at c26
          obtain ⟨g23, h⟩ := A8.1 h
          try simp (disch := omega) at g23
          try simp -implicitDefEqProofs (disch := omega) [go_sem, Ai, AG, AH, AW, Bk]
          subst hc14; refine Ac h (by first | with_reducible rfl | (simp -implicitDefEqProofs (disch := omega) [go_sem, Ai, AG, AH, AW, Bk] <;> omega)) rfl ?_ ?_
          ·intro c24 h
           try simp (disch := omega) at c24
           refine A1 fun cb hc25 => ?_; refine vcK ?_
           try simp -implicitDefEqProofs (disch := omega) [go_sem, Ai, AG, AH, AW, Bk]
           subst hc25; refine vcK ?_; simp -implicitDefEqProofs only [go_sem]; have e4 := Option.some.inj h; subst e4; have e4 := hret4 _ rfl; subst e4; replace h : some false = some r := hk4; have er := Option.some.inj h; subst er
           try simp -implicitDefEqProofs (disch := omega) [go_sem, Ai, AG, AH, AW, Bk]
           refine A3 (by exact A7 he4) (by first | with_reducible rfl | (simp -implicitDefEqProofs (disch := omega) [go_sem, Ai, AG, AH, AW, Bk] <;> omega)) nbA hK
          ·intro c24 h
           try simp (disch := omega) at c24
           refine vcK ?_; simp -implicitDefEqProofs only [go_sem]; subst hc11; refine vcK ?_
           try simp -implicitDefEqProofs (disch := omega) [go_sem, Ai, AG, AH, AW, Bk]
           have e4 := Option.some.inj h; subst e4; refine Ap hI4 (IntKind.i64.wrap (v5 + 1)) ?_; refine .same ⟨by exact A7 he4, by first | with_reducible rfl | with_reducible assumption | omega | (simp -implicitDefEqProofs (disch := omega) [go_sem, Ai, AG, AH, AW, Bk] <;> omega), ?_, ?_, ?_, ?_, ?_⟩ <;> first | with_reducible rfl | with_reducible assumption | (simp -implicitDefEqProofs (disch := omega) [go_sem, Ai, AG, AH, AW, Bk] <;> omega)
         ·intro c26 h
          try simp (disch := omega) at c26
          try simp -implicitDefEqProofs (disch := omega) [go_sem, Ai, AG, AH, AW, Bk]
          subst hc14; refine By (by first | with_reducible rfl | (simp -implicitDefEqProofs (disch := omega) [go_sem, Ai, AG, AH, AW, Bk] <;> omega)) rfl ?_; refine vcK ?_; simp -implicitDefEqProofs only [go_sem]; subst hc11; refine vcK ?_
          try simp -implicitDefEqProofs (disch := omega) [go_sem, Ai, AG, AH, AW, Bk]
          have e4 := Option.some.inj h; subst e4; refine Ap hI4 (IntKind.i64.wrap (v5 + 1)) ?_; refine .same ⟨by exact A7 he4, by first | with_reducible rfl | with_reducible assumption | omega | (simp -implicitDefEqProofs (disch := omega) [go_sem, Ai, AG, AH, AW, Bk] <;> omega), ?_, ?_, ?_, ?_, ?_⟩ <;> first | with_reducible rfl | with_reducible assumption | (simp -implicitDefEqProofs (disch := omega) [go_sem, Ai, AG, AH, AW, Bk] <;> omega)
   ·intro c10 h
    try simp (disch := omega) at c10
    refine vcK ?_; simp -implicitDefEqProofs only [go_sem]; have e4 := Option.some.inj h; subst e4; have hy4 := hret4 _ rfl; refine hc4 _ _ ?_; refine .same ⟨hy4, by exact A7 he4, by first | with_reducible rfl | with_reducible assumption | omega | (simp -implicitDefEqProofs (disch := omega) [go_sem, Ai, AG, AH, AW, Bk] <;> omega), ?_, ?_⟩ <;> first | with_reducible rfl | with_reducible assumption | (simp -implicitDefEqProofs (disch := omega) [go_sem, Ai, AG, AH, AW, Bk] <;> omega)
noncomputable def MM (v9 : List UInt8) : Option (List UInt8) :=
 some v9
noncomputable def MN (a0 : List (List UInt8)) (v6 : List UInt8) (v8 : Int) : Option (((List UInt8) × Int) ⊕ (List UInt8)) :=
 if v8 < (a0.length : Int) then (gd (0 ≤ v8 ∧ v8 < a0.length) (gd ((v6.length + (a0.getD v8.toNat []).length) * 1 ≤ 140737488355328) (gd (((v6 ++ (a0.getD v8.toNat [])).length + ([13, 10] : List UInt8).length) * 1 ≤ 140737488355328) (some (.inl (((v6 ++ (a0.getD v8.toNat [])) ++ ([13, 10] : List UInt8), IntKind.i64.wrap (v8 + 1)))))))) else (some (.inr v6))
noncomputable def F42 (a0 : List (List UInt8)) : Option (List UInt8) :=
 (AY (fun (s : (List UInt8) × Int) => MN a0 s.1 s.2) ([], 0)).bind fun (e : (List UInt8)) => MM e
set_option maxHeartbeats 8000000 in
set_option pp.deepTerms false in
set_option maxRecDepth 60000 in
theorem TO {H : A0} {K : An → A0 → Prop} (a0 : List (List UInt8)) {r : (List UInt8)} (h : F42 a0 = some r) (hK : K (.ret (.sl 1 (r.map fun x => [.v (.int .u8 x.toNat)]))) H) : A2 prog 42 [.sl 1 (a0.map fun x => [.v (str x)])] H K := by
 refine Aa (N := 19) func42 (by kernel_rfl) rfl (by kernel_rfl) (by kernel_rfl) fun cb hcb hw hbd hnb => ?_; clear hbd hnb; subst hcb; unfold F42 at h; refine A1 fun cb hc1 => ?_; refine vcK ?_
 try simp -implicitDefEqProofs (disch := omega) [go_sem]
 subst hc1; refine A1 fun cb hc2 => ?_; refine vcK ?_
 try simp -implicitDefEqProofs (disch := omega) [go_sem]
 subst hc2; refine A1 fun cb hc3 => ?_; refine A1 fun cb hc4 => ?_; refine vcK ?_
 try simp -implicitDefEqProofs (disch := omega) [go_sem]
 subst hc4; obtain ⟨y5, hl5q, hk5⟩ := A4 h; refine AZ (fun tm' H' => ∃ n10 : Nat, ∃ v9 : List UInt8, v9 = y5 ∧ Ext H H' ∧ H.next ≤ H'.next ∧ H.next ≤ n10 ∧ n10 < H'.next ∧ tm' 3 = .os n10 v9.length ∧ H'.obj n10 = some (.row 1 (v9.map fun x => [.v (.int .u8 x.toNat)]))) ?_ fun cb hc5 => ?_
 ·rintro tm5e H5e ⟨n10, v9, rfl, he5e, hl5e, hr0_5e, hs0_5e, t3_5e, or0_5e⟩
  have h : MM v9 = some r := hk5; unfold MM at h; simp -implicitDefEqProofs only [go_sem]; subst hc3; refine A1 fun cb hc11 => ?_; refine vcK ?_
  try simp -implicitDefEqProofs (disch := omega) [go_sem, t3_5e, or0_5e]
  subst hc11; refine IWp.gh (Gh.freeze (d := 2) (k := n10) (sz := 1) (es := v9.map fun x => [.v (.int .u8 x.toNat)]) (by (simp -implicitDefEqProofs (disch := omega) [go_sem, t3_5e, or0_5e] <;> omega)) (by (simp -implicitDefEqProofs (disch := omega) [go_sem, t3_5e, or0_5e] <;> omega))) ?_; refine vcK ?_; simp -implicitDefEqProofs only [go_sem]; have er := Option.some.inj h; subst er
  try simp -implicitDefEqProofs (disch := omega) [go_sem, t3_5e, or0_5e]
  refine A3 (by exact A7 he5e) (by first | with_reducible rfl | (simp -implicitDefEqProofs (disch := omega) [go_sem, t3_5e, or0_5e] <;> omega)) nbA hK
 ·refine Ag ?_; refine AQ (fun (s : (List UInt8) × Int) tm' H' => ∃ n7 : Nat, Ext H H' ∧ H.next ≤ H'.next ∧ H.next ≤ n7 ∧ n7 < H'.next ∧ tm' 3 = .os n7 s.1.length ∧ tm' 6 = .sl 1 (a0.map fun x => [.v (str x)]) ∧ tm' 7 = .v (.int .i64 (a0.length : Int)) ∧ tm' 8 = .v (.int .i64 s.2) ∧ H'.obj n7 = some (.row 1 (s.1.map fun x => [.v (.int .u8 x.toNat)]))) hl5q ?_ ?_
  ·refine UpI.gh (Gh.Kj (d := 3) (sz := 1) (by omega) (by (simp -implicitDefEqProofs (disch := omega) [go_sem] <;> omega))) ?_; refine .same ⟨H.next, by exact A7 (Ext.refl hw), by first | with_reducible rfl | with_reducible assumption | omega | (simp -implicitDefEqProofs (disch := omega) [go_sem] <;> omega), by first | with_reducible rfl | with_reducible assumption | omega | (simp -implicitDefEqProofs (disch := omega) [go_sem] <;> omega), by first | with_reducible rfl | with_reducible assumption | omega | (simp -implicitDefEqProofs (disch := omega) [go_sem] <;> omega), ?_, ?_, ?_, ?_, ?_⟩ <;> first | with_reducible rfl | with_reducible assumption | (simp -implicitDefEqProofs (disch := omega) [go_sem] <;> omega)
  ·rintro I5 hI5 ⟨v6, v8⟩ x5 tm5 H5 ⟨n7, he5, hl5, Pw, Px, BI, Bb, Aw, Am, AL⟩ h hret5
   replace h : MN a0 v6 v8 = some x5 := h; unfold MN at h; refine A1 fun cb hc12 => ?_; refine vcK ?_
   try simp -implicitDefEqProofs (disch := omega) [go_sem, BI, Bb, Aw, Am, AL]
   subst hc12; refine A1 fun cb hc13 => ?_; refine Ac h (by first | with_reducible rfl | (simp -implicitDefEqProofs (disch := omega) [go_sem, BI, Bb, Aw, Am, AL] <;> omega)) rfl ?_ ?_
   ·intro c14 h
    try simp (disch := omega) at c14
    refine vcK ?_; simp -implicitDefEqProofs only [go_sem]; subst hc13; refine A1 fun cb hc15 => ?_; refine Ag ?_; refine A1 fun cb hc16 => ?_; refine vcK ?_; obtain ⟨g17, h⟩ := A8.1 h
    try simp (disch := omega) at g17
    try simp -implicitDefEqProofs (disch := omega) [go_sem, BI, Bb, Aw, Am, AL]
    subst hc16; refine vcK ?_; obtain ⟨g18, h⟩ := A8.1 h
    try simp (disch := omega) at g18
    obtain ⟨g19, h⟩ := A8.1 h
    try simp (disch := omega) at g19
    try simp -implicitDefEqProofs (disch := omega) [go_sem, BI, Bb, Aw, Am, AL]
    subst hc15; refine vcK ?_
    try simp -implicitDefEqProofs (disch := omega) [go_sem, BI, Bb, Aw, Am, AL]
    have e5 := Option.some.inj h; subst e5; refine Ap hI5 (((v6 ++ (a0.getD v8.toNat [])) ++ ([13, 10] : List UInt8), IntKind.i64.wrap (v8 + 1))) ?_; refine .same ⟨n7, by exact A7 he5, by first | with_reducible rfl | with_reducible assumption | omega | (simp -implicitDefEqProofs (disch := omega) [go_sem, BI, Bb, Aw, Am, AL] <;> omega), by first | with_reducible rfl | with_reducible assumption | omega | (simp -implicitDefEqProofs (disch := omega) [go_sem, BI, Bb, Aw, Am, AL] <;> omega), by first | with_reducible rfl | with_reducible assumption | omega | (simp -implicitDefEqProofs (disch := omega) [go_sem, BI, Bb, Aw, Am, AL] <;> omega), ?_, ?_, ?_, ?_, ?_⟩ <;> first | with_reducible rfl | with_reducible assumption | (simp -implicitDefEqProofs (disch := omega) [go_sem, BI, Bb, Aw, Am, AL] <;> omega)
   ·intro c14 h
    try simp (disch := omega) at c14
    refine vcK ?_; simp -implicitDefEqProofs only [go_sem]; have e5 := Option.some.inj h; subst e5; have hy5 := hret5 _ rfl; refine hc5 _ _ ?_; refine .same ⟨n7, v6, hy5, by exact A7 he5, by first | with_reducible rfl | with_reducible assumption | omega | (simp -implicitDefEqProofs (disch := omega) [go_sem, BI, Bb, Aw, Am, AL] <;> omega), by first | with_reducible rfl | with_reducible assumption | omega | (simp -implicitDefEqProofs (disch := omega) [go_sem, BI, Bb, Aw, Am, AL] <;> omega), by first | with_reducible rfl | with_reducible assumption | omega | (simp -implicitDefEqProofs (disch := omega) [go_sem, BI, Bb, Aw, Am, AL] <;> omega), ?_, ?_⟩ <;> first | with_reducible rfl | with_reducible assumption | (simp -implicitDefEqProofs (disch := omega) [go_sem, BI, Bb, Aw, Am, AL] <;> omega)
end Go.Idl
namespace Go.Idl
open Go Go.Proofs.Tryz
noncomputable def MO (a2 : List UInt8) (v9 : List (List UInt8)) : Option (List UInt8) :=
 gd ((v9.length + ([a2, []]).length) * 16 ≤ 140737488355328) ((F42 (v9 ++ ([a2, []]))).bind fun (x13 : (List UInt8)) => some x13)
noncomputable def MP (a1 : List S55) (v6 : List (List UInt8)) (v8 : Int) : Option (((List (List UInt8)) × Int) ⊕ ((List (List UInt8)))) :=
 if v8 < (a1.length : Int) then (gd (0 ≤ v8 ∧ v8 < a1.length) (gd ((((a1.getD v8.toNat S55.zero).fName).length : Int) + (([58, 32]) : List UInt8).length ≤ 9223372036854775807) (gd (((((a1.getD v8.toNat S55.zero).fName) ++ (([58, 32]) : List UInt8)).length : Int) + ((a1.getD v8.toNat S55.zero).A6).length ≤ 9223372036854775807) (gd ((v6.length + ([(((a1.getD v8.toNat S55.zero).fName) ++ (([58, 32]) : List UInt8)) ++ ((a1.getD v8.toNat S55.zero).A6)]).length) * 16 ≤ 140737488355328) (some (.inl ((v6 ++ ([(((a1.getD v8.toNat S55.zero).fName) ++ (([58, 32]) : List UInt8)) ++ ((a1.getD v8.toNat S55.zero).A6)]), IntKind.i64.wrap (v8 + 1))))))))) else (some (.inr v6))
noncomputable def F28 (a0 : List UInt8) (a1 : List S55) (a2 : List UInt8) : Option (List UInt8) :=
 (AY (fun (s : (List (List UInt8)) × Int) => MP a1 s.1 s.2) (([a0]), 0)).bind fun (e : (List (List UInt8))) => MO a2 e
set_option maxHeartbeats 8000000 in
set_option pp.deepTerms false in
set_option maxRecDepth 60000 in
theorem Yo {H : A0} {K : An → A0 → Prop} (a0 : List UInt8) (a1 : List S55) (a2 : List UInt8) {r : (List UInt8)} (h : F28 a0 a1 a2 = some r) (hK : K (.ret (.sl 1 (r.map fun x => [.v (.int .u8 x.toNat)]))) H) : A2 prog 28 [.v (str a0), .sl 2 (a1.map fun x => [.v (str x.fName), .v (str x.A6)]), .v (str a2)] H K := by
 refine Aa (N := 33) func28 (by kernel_rfl) rfl (by kernel_rfl) (by kernel_rfl) fun cb hcb hw hbd hnb => ?_; clear hbd hnb; subst hcb; unfold F28 at h; refine A1 fun cb hc1 => ?_; refine vcK ?_
 try simp -implicitDefEqProofs (disch := omega) [go_sem]
 subst hc1; refine A1 fun cb hc2 => ?_; refine CY [false, true] (by kernel_rfl) ?_
 try simp -implicitDefEqProofs (disch := omega) [go_sem]
 refine Gg (sz := 1) (rs := (([a0]).map fun x => [.v (str x)]).flatten) (es := ([a0]).map fun x => [.v (str x)]) rfl (by kernel_rfl) (by simp -implicitDefEqProofs (disch := omega) [go_sem]) (by first | rfl | simp [chunks]) (by simp) (by decide) ?_
 try simp -implicitDefEqProofs (disch := omega) [go_sem]
 subst hc2; refine A1 fun cb hc3 => ?_; refine A1 fun cb hc4 => ?_; refine vcK ?_
 try simp -implicitDefEqProofs (disch := omega) [go_sem]
 subst hc4; obtain ⟨y5, hl5q, hk5⟩ := A4 h; refine AZ (fun tm' H' => ∃ n10 : Nat, ∃ v9 : List (List UInt8), v9 = y5 ∧ Ext H H' ∧ H.next + 1 ≤ H'.next ∧ H.next ≤ n10 ∧ n10 < H'.next ∧ tm' 2 = .v (str a2) ∧ tm' 7 = .os n10 v9.length ∧ H'.obj n10 = some (.row 1 (v9.map fun x => [.v (str x)]))) ?_ fun cb hc5 => ?_
 ·rintro tm5e H5e ⟨n10, v9, rfl, he5e, hl5e, hr0_5e, hs0_5e, t2_5e, t7_5e, or0_5e⟩
  have h : MO a2 v9 = some r := hk5; unfold MO at h; simp -implicitDefEqProofs only [go_sem]; subst hc3; refine A1 fun cb hc11 => ?_; refine vcK ?_; obtain ⟨g12, h⟩ := A8.1 h
  try simp (disch := omega) at g12
  try simp -implicitDefEqProofs (disch := omega) [go_sem, t2_5e, t7_5e, or0_5e]
  refine A2.fz (k := n10) (args' := [.sl 1 ((v9 ++ ([a2, []])).map fun x => [.v (str x)])]) (by repeat (first | exact FA.nil | refine FA.cons ?_ ?_ | exact FzK.row _ _ _ (by simp -implicitDefEqProofs (disch := omega) [go_sem, t2_5e, t7_5e, or0_5e]) (by first | (simp; done) | (simp; omega)) | exact FzK.same _)) ?_; obtain ⟨x13, hx13, h⟩ := A4 h; refine A2.eqA (args' := [.sl 1 ((v9 ++ ([a2, []])).map fun x => [.v (str x)])]) (by first | with_reducible rfl | (simp -implicitDefEqProofs (disch := omega) [go_sem, t2_5e, t7_5e, or0_5e] <;> omega)) (TO (v9 ++ ([a2, []])) hx13 ?_)
  try simp -implicitDefEqProofs (disch := omega) [go_sem, t2_5e, t7_5e, or0_5e]
  subst hc11; refine vcK ?_; simp -implicitDefEqProofs only [go_sem]; have er := Option.some.inj h; subst er
  try simp -implicitDefEqProofs (disch := omega) [go_sem, t2_5e, t7_5e, or0_5e]
  refine A3 (by exact A7 he5e) (by first | with_reducible rfl | (simp -implicitDefEqProofs (disch := omega) [go_sem, t2_5e, t7_5e, or0_5e] <;> omega)) nbA hK
 ·refine Ag ?_; refine AQ (fun (s : (List (List UInt8)) × Int) tm' H' => ∃ n7 : Nat, Ext H H' ∧ H.next + 1 ≤ H'.next ∧ H.next ≤ n7 ∧ n7 < H'.next ∧ tm' 2 = .v (str a2) ∧ tm' 7 = .os n7 s.1.length ∧ tm' 12 = .sl 2 (a1.map fun x => [.v (str x.fName), .v (str x.A6)]) ∧ tm' 13 = .v (.int .i64 (a1.length : Int)) ∧ tm' 14 = .v (.int .i64 s.2) ∧ H'.obj n7 = some (.row 1 (s.1.map fun x => [.v (str x)]))) hl5q ?_ ?_
  ·refine .same ⟨H.next, by exact A7 (Ext.refl hw), by first | with_reducible rfl | with_reducible assumption | omega | (simp -implicitDefEqProofs (disch := omega) [go_sem] <;> omega), by first | with_reducible rfl | with_reducible assumption | omega | (simp -implicitDefEqProofs (disch := omega) [go_sem] <;> omega), by first | with_reducible rfl | with_reducible assumption | omega | (simp -implicitDefEqProofs (disch := omega) [go_sem] <;> omega), ?_, ?_, ?_, ?_, ?_, ?_⟩ <;> first | with_reducible rfl | with_reducible assumption | (simp -implicitDefEqProofs (disch := omega) [go_sem] <;> omega)
  ·rintro I5 hI5 ⟨v6, v8⟩ x5 tm5 H5 ⟨n7, he5, hl5, Pw, Px, CR, Aw, B_, C0, C1, AL⟩ h hret5
   replace h : MP a1 v6 v8 = some x5 := h; unfold MP at h; refine A1 fun cb hc14 => ?_; refine vcK ?_
   try simp -implicitDefEqProofs (disch := omega) [go_sem, CR, Aw, B_, C0, C1, AL]
   subst hc14; refine A1 fun cb hc15 => ?_; refine Ac h (by first | with_reducible rfl | (simp -implicitDefEqProofs (disch := omega) [go_sem, CR, Aw, B_, C0, C1, AL] <;> omega)) rfl ?_ ?_
   ·intro c16 h
    try simp (disch := omega) at c16
    refine vcK ?_; simp -implicitDefEqProofs only [go_sem]; subst hc15; refine A1 fun cb hc17 => ?_; refine Ag ?_; refine A1 fun cb hc18 => ?_; refine vcK ?_; obtain ⟨g19, h⟩ := A8.1 h
    try simp (disch := omega) at g19
    try simp -implicitDefEqProofs (disch := omega) [go_sem, CR, Aw, B_, C0, C1, AL]
    subst hc18; refine vcK ?_; obtain ⟨g20, h⟩ := A8.1 h
    try simp (disch := omega) at g20
    obtain ⟨g21, h⟩ := A8.1 h
    try simp (disch := omega) at g21
    obtain ⟨g22, h⟩ := A8.1 h
    try simp (disch := omega) at g22
    try simp -implicitDefEqProofs (disch := omega) [go_sem, CR, Aw, B_, C0, C1, AL]
    subst hc17; refine vcK ?_
    try simp -implicitDefEqProofs (disch := omega) [go_sem, CR, Aw, B_, C0, C1, AL]
    have e5 := Option.some.inj h; subst e5; refine Ap hI5 ((v6 ++ ([(((a1.getD v8.toNat S55.zero).fName) ++ (([58, 32]) : List UInt8)) ++ ((a1.getD v8.toNat S55.zero).A6)]), IntKind.i64.wrap (v8 + 1))) ?_; refine .same ⟨n7, by exact A7 he5, by first | with_reducible rfl | with_reducible assumption | omega | (simp -implicitDefEqProofs (disch := omega) [go_sem, CR, Aw, B_, C0, C1, AL] <;> omega), by first | with_reducible rfl | with_reducible assumption | omega | (simp -implicitDefEqProofs (disch := omega) [go_sem, CR, Aw, B_, C0, C1, AL] <;> omega), by first | with_reducible rfl | with_reducible assumption | omega | (simp -implicitDefEqProofs (disch := omega) [go_sem, CR, Aw, B_, C0, C1, AL] <;> omega), ?_, ?_, ?_, ?_, ?_, ?_⟩ <;> first | with_reducible rfl | with_reducible assumption | (simp -implicitDefEqProofs (disch := omega) [go_sem, CR, Aw, B_, C0, C1, AL] <;> omega)
   ·intro c16 h
    try simp (disch := omega) at c16
    refine vcK ?_; simp -implicitDefEqProofs only [go_sem]; have e5 := Option.some.inj h; subst e5; have hy5 := hret5 _ rfl; refine hc5 _ _ ?_; refine .same ⟨n7, v6, hy5, by exact A7 he5, by first | with_reducible rfl | with_reducible assumption | omega | (simp -implicitDefEqProofs (disch := omega) [go_sem, CR, Aw, B_, C0, C1, AL] <;> omega), by first | with_reducible rfl | with_reducible assumption | omega | (simp -implicitDefEqProofs (disch := omega) [go_sem, CR, Aw, B_, C0, C1, AL] <;> omega), by first | with_reducible rfl | with_reducible assumption | omega | (simp -implicitDefEqProofs (disch := omega) [go_sem, CR, Aw, B_, C0, C1, AL] <;> omega), ?_, ?_, ?_⟩ <;> first | with_reducible rfl | with_reducible assumption | (simp -implicitDefEqProofs (disch := omega) [go_sem, CR, Aw, B_, C0, C1, AL] <;> omega)
noncomputable def IW (v9 : List UInt8) : Option (List UInt8) :=
 some v9
noncomputable def Dk (a0 : List (List UInt8)) (v6 : List UInt8) (v8 : Int) : Option (((List UInt8) × Int) ⊕ (List UInt8)) :=
 if v8 < (a0.length : Int) then (gd (0 ≤ v8 ∧ v8 < a0.length) (gd ((v6.length + (a0.getD v8.toNat []).length) * 1 ≤ 140737488355328) (gd (((v6 ++ (a0.getD v8.toNat [])).length + ([13, 10] : List UInt8).length) * 1 ≤ 140737488355328) (some (.inl (((v6 ++ (a0.getD v8.toNat [])) ++ ([13, 10] : List UInt8), IntKind.i64.wrap (v8 + 1)))))))) else (some (.inr v6))
noncomputable def LG (a0 : List (List UInt8)) : Option (List UInt8) :=
 (AY (fun (s : (List UInt8) × Int) => Dk a0 s.1 s.2) ([], 0)).bind fun (e : (List UInt8)) => IW e
set_option maxHeartbeats 8000000 in
set_option pp.deepTerms false in
set_option maxRecDepth 60000 in
theorem Py {H : A0} {K : An → A0 → Prop} (a0 : List (List UInt8)) {r : (List UInt8)} (h : LG a0 = some r) (hK : K (.ret (.os H.next r.length)) (newL H [.row 1 (r.map fun x => [.v (.int .u8 x.toNat)])])) : A2 prog 42 [.sl 1 (a0.map fun x => [.v (str x)])] H K := by
 refine Aa (N := 19) func42 (by kernel_rfl) rfl (by kernel_rfl) (by kernel_rfl) fun cb hcb hw hbd hnb => ?_; clear hbd hnb; subst hcb; unfold LG at h; refine A1 fun cb hc1 => ?_; refine vcK ?_
 try simp -implicitDefEqProofs (disch := omega) [go_sem]
 subst hc1; refine A1 fun cb hc2 => ?_; refine vcK ?_
 try simp -implicitDefEqProofs (disch := omega) [go_sem]
 subst hc2; refine A1 fun cb hc3 => ?_; refine A1 fun cb hc4 => ?_; refine vcK ?_
 try simp -implicitDefEqProofs (disch := omega) [go_sem]
 subst hc4; obtain ⟨y5, hl5q, hk5⟩ := A4 h; refine AZ (fun tm' H' => ∃ n10 : Nat, ∃ v9 : List UInt8, v9 = y5 ∧ Ext H H' ∧ H.next ≤ H'.next ∧ H.next ≤ n10 ∧ n10 < H'.next ∧ tm' 3 = .os n10 v9.length ∧ H'.obj n10 = some (.row 1 (v9.map fun x => [.v (.int .u8 x.toNat)]))) ?_ fun cb hc5 => ?_
 ·rintro tm5e H5e ⟨n10, v9, rfl, he5e, hl5e, hr0_5e, hs0_5e, t3_5e, or0_5e⟩
  have h : IW v9 = some r := hk5; unfold IW at h; simp -implicitDefEqProofs only [go_sem]; subst hc3; refine A1 fun cb hc11 => ?_; refine vcK ?_
  try simp -implicitDefEqProofs (disch := omega) [go_sem, t3_5e, or0_5e]
  subst hc11; refine vcK ?_; simp -implicitDefEqProofs only [go_sem]; have er := Option.some.inj h; subst er
  try simp -implicitDefEqProofs (disch := omega) [go_sem, t3_5e, or0_5e]
  refine Mw (r := .os n10 v9.length) (r' := .os H.next v9.length) (by first | with_reducible rfl | (simp -implicitDefEqProofs (disch := omega) [go_sem] <;> omega)) (Lm (by exact A7 he5e) (ks := [n10]) (os := [.row 1 (v9.map fun x => [.v (.int .u8 x.toNat)])]) (.cons (o := .row 1 (v9.map fun x => [.v (.int .u8 x.toNat)])) (by first | omega | (simp [go_sem]; done) | (simp [go_sem]; omega)) (by first | omega | (simp [go_sem]; done) | (simp [go_sem]; omega)) (by simp -implicitDefEqProofs (disch := omega) [go_sem, t3_5e, or0_5e]) (.same _ (Lr fun _ => by first | exact nbA | exact BY | exact BN)) .nil) (by simp)) (.osR (k := H.next) (by simp [Co]) (by simp [go_sem]) rfl) hK
 ·refine Ag ?_; refine AQ (fun (s : (List UInt8) × Int) tm' H' => ∃ n7 : Nat, Ext H H' ∧ H.next ≤ H'.next ∧ H.next ≤ n7 ∧ n7 < H'.next ∧ tm' 3 = .os n7 s.1.length ∧ tm' 6 = .sl 1 (a0.map fun x => [.v (str x)]) ∧ tm' 7 = .v (.int .i64 (a0.length : Int)) ∧ tm' 8 = .v (.int .i64 s.2) ∧ H'.obj n7 = some (.row 1 (s.1.map fun x => [.v (.int .u8 x.toNat)]))) hl5q ?_ ?_
  ·refine UpI.gh (Gh.Kj (d := 3) (sz := 1) (by omega) (by (simp -implicitDefEqProofs (disch := omega) [go_sem] <;> omega))) ?_; refine .same ⟨H.next, by exact A7 (Ext.refl hw), by first | with_reducible rfl | with_reducible assumption | omega | (simp -implicitDefEqProofs (disch := omega) [go_sem] <;> omega), by first | with_reducible rfl | with_reducible assumption | omega | (simp -implicitDefEqProofs (disch := omega) [go_sem] <;> omega), by first | with_reducible rfl | with_reducible assumption | omega | (simp -implicitDefEqProofs (disch := omega) [go_sem] <;> omega), ?_, ?_, ?_, ?_, ?_⟩ <;> first | with_reducible rfl | with_reducible assumption | (simp -implicitDefEqProofs (disch := omega) [go_sem] <;> omega)
  ·rintro I5 hI5 ⟨v6, v8⟩ x5 tm5 H5 ⟨n7, he5, hl5, Pw, Px, BI, Bb, Aw, Am, AL⟩ h hret5
   replace h : Dk a0 v6 v8 = some x5 := h; unfold Dk at h; refine A1 fun cb hc12 => ?_; refine vcK ?_
   try simp -implicitDefEqProofs (disch := omega) [go_sem, BI, Bb, Aw, Am, AL]
   subst hc12; refine A1 fun cb hc13 => ?_; refine Ac h (by first | with_reducible rfl | (simp -implicitDefEqProofs (disch := omega) [go_sem, BI, Bb, Aw, Am, AL] <;> omega)) rfl ?_ ?_
   ·intro c14 h
    try simp (disch := omega) at c14
    refine vcK ?_; simp -implicitDefEqProofs only [go_sem]; subst hc13; refine A1 fun cb hc15 => ?_; refine Ag ?_; refine A1 fun cb hc16 => ?_; refine vcK ?_; obtain ⟨g17, h⟩ := A8.1 h
    try simp (disch := omega) at g17
    try simp -implicitDefEqProofs (disch := omega) [go_sem, BI, Bb, Aw, Am, AL]
    subst hc16; refine vcK ?_; obtain ⟨g18, h⟩ := A8.1 h
    try simp (disch := omega) at g18
    obtain ⟨g19, h⟩ := A8.1 h
    try simp (disch := omega) at g19
    try simp -implicitDefEqProofs (disch := omega) [go_sem, BI, Bb, Aw, Am, AL]
    subst hc15; refine vcK ?_
    try simp -implicitDefEqProofs (disch := omega) [go_sem, BI, Bb, Aw, Am, AL]
    have e5 := Option.some.inj h; subst e5; refine Ap hI5 (((v6 ++ (a0.getD v8.toNat [])) ++ ([13, 10] : List UInt8), IntKind.i64.wrap (v8 + 1))) ?_; refine .same ⟨n7, by exact A7 he5, by first | with_reducible rfl | with_reducible assumption | omega | (simp -implicitDefEqProofs (disch := omega) [go_sem, BI, Bb, Aw, Am, AL] <;> omega), by first | with_reducible rfl | with_reducible assumption | omega | (simp -implicitDefEqProofs (disch := omega) [go_sem, BI, Bb, Aw, Am, AL] <;> omega), by first | with_reducible rfl | with_reducible assumption | omega | (simp -implicitDefEqProofs (disch := omega) [go_sem, BI, Bb, Aw, Am, AL] <;> omega), ?_, ?_, ?_, ?_, ?_⟩ <;> first | with_reducible rfl | with_reducible assumption | (simp -implicitDefEqProofs (disch := omega) [go_sem, BI, Bb, Aw, Am, AL] <;> omega)
   ·intro c14 h
    try simp (disch := omega) at c14
    refine vcK ?_; simp -implicitDefEqProofs only [go_sem]; have e5 := Option.some.inj h; subst e5; have hy5 := hret5 _ rfl; refine hc5 _ _ ?_; refine .same ⟨n7, v6, hy5, by exact A7 he5, by first | with_reducible rfl | with_reducible assumption | omega | (simp -implicitDefEqProofs (disch := omega) [go_sem, BI, Bb, Aw, Am, AL] <;> omega), by first | with_reducible rfl | with_reducible assumption | omega | (simp -implicitDefEqProofs (disch := omega) [go_sem, BI, Bb, Aw, Am, AL] <;> omega), by first | with_reducible rfl | with_reducible assumption | omega | (simp -implicitDefEqProofs (disch := omega) [go_sem, BI, Bb, Aw, Am, AL] <;> omega), ?_, ?_⟩ <;> first | with_reducible rfl | with_reducible assumption | (simp -implicitDefEqProofs (disch := omega) [go_sem, BI, Bb, Aw, Am, AL] <;> omega)
noncomputable def Gq (a2 : List UInt8) (v9 : List (List UInt8)) : Option (List UInt8) :=
 gd ((v9.length + ([a2, []]).length) * 16 ≤ 140737488355328) ((LG (v9 ++ ([a2, []]))).bind fun (x13 : (List UInt8)) => some x13)
noncomputable def E0 (a1 : List S55) (v6 : List (List UInt8)) (v8 : Int) : Option (((List (List UInt8)) × Int) ⊕ ((List (List UInt8)))) :=
 if v8 < (a1.length : Int) then (gd (0 ≤ v8 ∧ v8 < a1.length) (gd ((((a1.getD v8.toNat S55.zero).fName).length : Int) + (([58, 32]) : List UInt8).length ≤ 9223372036854775807) (gd (((((a1.getD v8.toNat S55.zero).fName) ++ (([58, 32]) : List UInt8)).length : Int) + ((a1.getD v8.toNat S55.zero).A6).length ≤ 9223372036854775807) (gd ((v6.length + ([(((a1.getD v8.toNat S55.zero).fName) ++ (([58, 32]) : List UInt8)) ++ ((a1.getD v8.toNat S55.zero).A6)]).length) * 16 ≤ 140737488355328) (some (.inl ((v6 ++ ([(((a1.getD v8.toNat S55.zero).fName) ++ (([58, 32]) : List UInt8)) ++ ((a1.getD v8.toNat S55.zero).A6)]), IntKind.i64.wrap (v8 + 1))))))))) else (some (.inr v6))
noncomputable def LH (a0 : List UInt8) (a1 : List S55) (a2 : List UInt8) : Option (List UInt8) :=
 (AY (fun (s : (List (List UInt8)) × Int) => E0 a1 s.1 s.2) (([a0]), 0)).bind fun (e : (List (List UInt8))) => Gq a2 e
set_option maxHeartbeats 8000000 in
set_option pp.deepTerms false in
set_option maxRecDepth 60000 in
theorem Pz {H : A0} {K : An → A0 → Prop} (a0 : List UInt8) (a1 : List S55) (a2 : List UInt8) {r : (List UInt8)} (h : LH a0 a1 a2 = some r) (hK : K (.ret (.os H.next r.length)) (newL H [.row 1 (r.map fun x => [.v (.int .u8 x.toNat)])])) : A2 prog 28 [.v (str a0), .sl 2 (a1.map fun x => [.v (str x.fName), .v (str x.A6)]), .v (str a2)] H K := by
 refine Aa (N := 33) func28 (by kernel_rfl) rfl (by kernel_rfl) (by kernel_rfl) fun cb hcb hw hbd hnb => ?_; clear hbd hnb; subst hcb; unfold LH at h; refine A1 fun cb hc1 => ?_; refine vcK ?_
 try simp -implicitDefEqProofs (disch := omega) [go_sem]
 subst hc1; refine A1 fun cb hc2 => ?_; refine CY [false, true] (by kernel_rfl) ?_
 try simp -implicitDefEqProofs (disch := omega) [go_sem]
 refine Gg (sz := 1) (rs := (([a0]).map fun x => [.v (str x)]).flatten) (es := ([a0]).map fun x => [.v (str x)]) rfl (by kernel_rfl) (by simp -implicitDefEqProofs (disch := omega) [go_sem]) (by first | rfl | simp [chunks]) (by simp) (by decide) ?_
 try simp -implicitDefEqProofs (disch := omega) [go_sem]
 subst hc2; refine A1 fun cb hc3 => ?_; refine A1 fun cb hc4 => ?_; refine vcK ?_
 try simp -implicitDefEqProofs (disch := omega) [go_sem]
 subst hc4; obtain ⟨y5, hl5q, hk5⟩ := A4 h; refine AZ (fun tm' H' => ∃ n10 : Nat, ∃ v9 : List (List UInt8), v9 = y5 ∧ Ext H H' ∧ H.next + 1 ≤ H'.next ∧ H.next ≤ n10 ∧ n10 < H'.next ∧ tm' 2 = .v (str a2) ∧ tm' 7 = .os n10 v9.length ∧ H'.obj n10 = some (.row 1 (v9.map fun x => [.v (str x)]))) ?_ fun cb hc5 => ?_
 ·rintro tm5e H5e ⟨n10, v9, rfl, he5e, hl5e, hr0_5e, hs0_5e, t2_5e, t7_5e, or0_5e⟩
  have h : Gq a2 v9 = some r := hk5; unfold Gq at h; simp -implicitDefEqProofs only [go_sem]; subst hc3; refine A1 fun cb hc11 => ?_; refine vcK ?_; obtain ⟨g12, h⟩ := A8.1 h
  try simp (disch := omega) at g12
  try simp -implicitDefEqProofs (disch := omega) [go_sem, t2_5e, t7_5e, or0_5e]
  refine A2.fz (k := n10) (args' := [.sl 1 ((v9 ++ ([a2, []])).map fun x => [.v (str x)])]) (by repeat (first | exact FA.nil | refine FA.cons ?_ ?_ | exact FzK.row _ _ _ (by simp -implicitDefEqProofs (disch := omega) [go_sem, t2_5e, t7_5e, or0_5e]) (by first | (simp; done) | (simp; omega)) | exact FzK.same _)) ?_; obtain ⟨x13, hx13, h⟩ := A4 h; refine A2.eqA (args' := [.sl 1 ((v9 ++ ([a2, []])).map fun x => [.v (str x)])]) (by first | with_reducible rfl | (simp -implicitDefEqProofs (disch := omega) [go_sem, t2_5e, t7_5e, or0_5e] <;> omega)) (Py (v9 ++ ([a2, []])) hx13 ?_)
  try simp -implicitDefEqProofs (disch := omega) [go_sem, t2_5e, t7_5e, or0_5e]
  subst hc11; refine vcK ?_; simp -implicitDefEqProofs only [go_sem]; have er := Option.some.inj h; subst er
  try simp -implicitDefEqProofs (disch := omega) [go_sem, t2_5e, t7_5e, or0_5e]
  refine Mw (r := .os H5e.next x13.length) (r' := .os H.next x13.length) (by first | with_reducible rfl | (simp -implicitDefEqProofs (disch := omega) [go_sem] <;> omega)) (Lm (by exact A7 he5e) (ks := [H5e.next]) (os := [.row 1 (x13.map fun x => [.v (.int .u8 x.toNat)])]) (.cons (o := .row 1 (x13.map fun x => [.v (.int .u8 x.toNat)])) (by first | omega | (simp [go_sem]; done) | (simp [go_sem]; omega)) (by first | omega | (simp [go_sem]; done) | (simp [go_sem]; omega)) (by simp -implicitDefEqProofs (disch := omega) [go_sem, t2_5e, t7_5e, or0_5e]) (.same _ (Lr fun _ => by first | exact nbA | exact BY | exact BN)) .nil) (by simp)) (.osR (k := H.next) (by simp [Co]) (by simp [go_sem]) rfl) hK
 ·refine Ag ?_; refine AQ (fun (s : (List (List UInt8)) × Int) tm' H' => ∃ n7 : Nat, Ext H H' ∧ H.next + 1 ≤ H'.next ∧ H.next ≤ n7 ∧ n7 < H'.next ∧ tm' 2 = .v (str a2) ∧ tm' 7 = .os n7 s.1.length ∧ tm' 12 = .sl 2 (a1.map fun x => [.v (str x.fName), .v (str x.A6)]) ∧ tm' 13 = .v (.int .i64 (a1.length : Int)) ∧ tm' 14 = .v (.int .i64 s.2) ∧ H'.obj n7 = some (.row 1 (s.1.map fun x => [.v (str x)]))) hl5q ?_ ?_
  ·refine .same ⟨H.next, by exact A7 (Ext.refl hw), by first | with_reducible rfl | with_reducible assumption | omega | (simp -implicitDefEqProofs (disch := omega) [go_sem] <;> omega), by first | with_reducible rfl | with_reducible assumption | omega | (simp -implicitDefEqProofs (disch := omega) [go_sem] <;> omega), by first | with_reducible rfl | with_reducible assumption | omega | (simp -implicitDefEqProofs (disch := omega) [go_sem] <;> omega), ?_, ?_, ?_, ?_, ?_, ?_⟩ <;> first | with_reducible rfl | with_reducible assumption | (simp -implicitDefEqProofs (disch := omega) [go_sem] <;> omega)
  ·rintro I5 hI5 ⟨v6, v8⟩ x5 tm5 H5 ⟨n7, he5, hl5, Pw, Px, CR, Aw, B_, C0, C1, AL⟩ h hret5
   replace h : E0 a1 v6 v8 = some x5 := h; unfold E0 at h; refine A1 fun cb hc15 => ?_; refine vcK ?_
   try simp -implicitDefEqProofs (disch := omega) [go_sem, CR, Aw, B_, C0, C1, AL]
   subst hc15; refine A1 fun cb hc16 => ?_; refine Ac h (by first | with_reducible rfl | (simp -implicitDefEqProofs (disch := omega) [go_sem, CR, Aw, B_, C0, C1, AL] <;> omega)) rfl ?_ ?_
   ·intro c17 h
    try simp (disch := omega) at c17
    refine vcK ?_; simp -implicitDefEqProofs only [go_sem]; subst hc16; refine A1 fun cb hc18 => ?_; refine Ag ?_; refine A1 fun cb hc19 => ?_; refine vcK ?_; obtain ⟨g20, h⟩ := A8.1 h
    try simp (disch := omega) at g20
    try simp -implicitDefEqProofs (disch := omega) [go_sem, CR, Aw, B_, C0, C1, AL]
    subst hc19; refine vcK ?_; obtain ⟨g21, h⟩ := A8.1 h
    try simp (disch := omega) at g21
    obtain ⟨g22, h⟩ := A8.1 h
    try simp (disch := omega) at g22
    obtain ⟨g23, h⟩ := A8.1 h
    try simp (disch := omega) at g23
    try simp -implicitDefEqProofs (disch := omega) [go_sem, CR, Aw, B_, C0, C1, AL]
    subst hc18; refine vcK ?_
    try simp -implicitDefEqProofs (disch := omega) [go_sem, CR, Aw, B_, C0, C1, AL]
    have e5 := Option.some.inj h; subst e5; refine Ap hI5 ((v6 ++ ([(((a1.getD v8.toNat S55.zero).fName) ++ (([58, 32]) : List UInt8)) ++ ((a1.getD v8.toNat S55.zero).A6)]), IntKind.i64.wrap (v8 + 1))) ?_; refine .same ⟨n7, by exact A7 he5, by first | with_reducible rfl | with_reducible assumption | omega | (simp -implicitDefEqProofs (disch := omega) [go_sem, CR, Aw, B_, C0, C1, AL] <;> omega), by first | with_reducible rfl | with_reducible assumption | omega | (simp -implicitDefEqProofs (disch := omega) [go_sem, CR, Aw, B_, C0, C1, AL] <;> omega), by first | with_reducible rfl | with_reducible assumption | omega | (simp -implicitDefEqProofs (disch := omega) [go_sem, CR, Aw, B_, C0, C1, AL] <;> omega), ?_, ?_, ?_, ?_, ?_, ?_⟩ <;> first | with_reducible rfl | with_reducible assumption | (simp -implicitDefEqProofs (disch := omega) [go_sem, CR, Aw, B_, C0, C1, AL] <;> omega)
   ·intro c17 h
    try simp (disch := omega) at c17
    refine vcK ?_; simp -implicitDefEqProofs only [go_sem]; have e5 := Option.some.inj h; subst e5; have hy5 := hret5 _ rfl; refine hc5 _ _ ?_; refine .same ⟨n7, v6, hy5, by exact A7 he5, by first | with_reducible rfl | with_reducible assumption | omega | (simp -implicitDefEqProofs (disch := omega) [go_sem, CR, Aw, B_, C0, C1, AL] <;> omega), by first | with_reducible rfl | with_reducible assumption | omega | (simp -implicitDefEqProofs (disch := omega) [go_sem, CR, Aw, B_, C0, C1, AL] <;> omega), by first | with_reducible rfl | with_reducible assumption | omega | (simp -implicitDefEqProofs (disch := omega) [go_sem, CR, Aw, B_, C0, C1, AL] <;> omega), ?_, ?_, ?_⟩ <;> first | with_reducible rfl | with_reducible assumption | (simp -implicitDefEqProofs (disch := omega) [go_sem, CR, Aw, B_, C0, C1, AL] <;> omega)
noncomputable def F18 (a0 : S42) : Option ((List UInt8) × Int) :=
 (F45 a0.Ah).bind fun (x4 : Bool) => if ¬ (x4 = true) then (some ([], 2)) else ((F46 a0.Ax).bind fun (x6 : Bool) => if ¬ (x6 = true) then (some ([], 2)) else ((F27 a0.A9 a0.Al).bind fun (x8 : Bool) => if ¬ (x8 = true) then (some ([], 2)) else (gd ((a0.Ah.length : Int) + (([32]) : List UInt8).length ≤ 9223372036854775807) (gd (((a0.Ah ++ (([32]) : List UInt8)).length : Int) + a0.Ax.length ≤ 9223372036854775807) (gd ((((a0.Ah ++ (([32]) : List UInt8)) ++ a0.Ax).length : Int) + (([32]) : List UInt8).length ≤ 9223372036854775807) (gd (((((a0.Ah ++ (([32]) : List UInt8)) ++ a0.Ax) ++ (([32]) : List UInt8)).length : Int) + (([72, 84, 84, 80, 47, 49, 46, 49]) : List UInt8).length ≤ 9223372036854775807) ((F29 (a0.Al.length : Int)).bind fun (x16 : (List UInt8)) => gd (((([99, 111, 110, 116, 101, 110, 116, 45, 108, 101, 110, 103, 116, 104, 58, 32]) : List UInt8).length : Int) + x16.length ≤ 9223372036854775807) ((LH ((((a0.Ah ++ (([32]) : List UInt8)) ++ a0.Ax) ++ (([32]) : List UInt8)) ++ (([72, 84, 84, 80, 47, 49, 46, 49]) : List UInt8)) a0.A9 ((([99, 111, 110, 116, 101, 110, 116, 45, 108, 101, 110, 103, 116, 104, 58, 32]) : List UInt8) ++ x16)).bind fun (x18 : (List UInt8)) => gd ((x18.length + a0.Al.length) * 1 ≤ 140737488355328) (some (x18 ++ a0.Al, 0))))))))))
set_option maxHeartbeats 8000000 in
set_option pp.deepTerms false in
set_option maxRecDepth 60000 in
theorem TP {H : A0} {K : An → A0 → Prop} (a0 : S42) (hV : VOK prog H) {r : (List UInt8) × Int} (h : F18 a0 = some r) (hK : K (.ret (.tu [.sl 1 (r.1.map fun x => [.v (.int .u8 x.toNat)]), .v (.int .i64 r.2)])) H) : A2 prog 18 [.ag ([.v (str a0.Ah), .v (str a0.Ax), .sl 2 (a0.A9.map fun x => [.v (str x.fName), .v (str x.A6)]), .sl 1 (a0.Al.map fun x => [.v (.int .u8 x.toNat)])])] H K := by
 refine Aa (N := 41) func18 (by kernel_rfl) rfl (by kernel_rfl) (by kernel_rfl) fun cb hcb hw hbd hnb => ?_; clear hbd hnb; subst hcb; unfold F18 at h; refine A1 fun cb hc1 => ?_; refine vcK ?_
 try simp -implicitDefEqProofs (disch := omega) [go_sem]
 subst hc1; refine A1 fun cb hc2 => ?_; refine A1 fun cb hc3 => ?_; refine vcK ?_
 try simp -implicitDefEqProofs (disch := omega) [go_sem]
 obtain ⟨x4, hx4, h⟩ := A4 h; refine A2.eqA (args' := [.v (str a0.Ah)]) (by first | with_reducible rfl | (simp -implicitDefEqProofs (disch := omega) [go_sem] <;> omega)) (Pj a0.Ah hx4 ?_)
 try simp -implicitDefEqProofs (disch := omega) [go_sem]
 refine A5 h (by first | with_reducible rfl | (simp -implicitDefEqProofs (disch := omega) [go_sem] <;> omega)) ?_ ?_
 ·intro c22 h
  try simp (disch := omega) at c22
  try simp -implicitDefEqProofs (disch := omega) [go_sem]
  subst hc3; refine Aq (by first | with_reducible rfl | (simp -implicitDefEqProofs (disch := omega) [go_sem] <;> omega)) rfl ?_; refine A1 fun cb hc5 => ?_; refine vcK ?_
  try simp -implicitDefEqProofs (disch := omega) [go_sem]
  subst hc5; refine IWp.gh (Gh.Lb 2 1 (by (simp -implicitDefEqProofs (disch := omega) [go_sem] <;> omega))) ?_; refine vcK ?_; simp -implicitDefEqProofs only [go_sem]; have er := Option.some.inj h; subst er
  try simp -implicitDefEqProofs (disch := omega) [go_sem]
  refine A3 (by exact A7 (Ext.refl hw)) (by first | with_reducible rfl | (simp -implicitDefEqProofs (disch := omega) [go_sem] <;> omega)) nbA hK
 ·intro c22 h
  try simp (disch := omega) at c22
  try simp -implicitDefEqProofs (disch := omega) [go_sem]
  obtain ⟨x6, hx6, h⟩ := A4 h; refine A2.eqA (args' := [.v (str a0.Ax)]) (by first | with_reducible rfl | (simp -implicitDefEqProofs (disch := omega) [go_sem] <;> omega)) (Pm a0.Ax hx6 ?_)
  try simp -implicitDefEqProofs (disch := omega) [go_sem]
  refine A5 h (by first | with_reducible rfl | (simp -implicitDefEqProofs (disch := omega) [go_sem] <;> omega)) ?_ ?_
  ·intro c21 h
   try simp (disch := omega) at c21
   try simp -implicitDefEqProofs (disch := omega) [go_sem]
   subst hc3; refine Aq (by first | with_reducible rfl | (simp -implicitDefEqProofs (disch := omega) [go_sem] <;> omega)) rfl ?_; refine A1 fun cb hc7 => ?_; refine vcK ?_
   try simp -implicitDefEqProofs (disch := omega) [go_sem]
   subst hc7; refine IWp.gh (Gh.Lb 2 1 (by (simp -implicitDefEqProofs (disch := omega) [go_sem] <;> omega))) ?_; refine vcK ?_; simp -implicitDefEqProofs only [go_sem]; have er := Option.some.inj h; subst er
   try simp -implicitDefEqProofs (disch := omega) [go_sem]
   refine A3 (by exact A7 (Ext.refl hw)) (by first | with_reducible rfl | (simp -implicitDefEqProofs (disch := omega) [go_sem] <;> omega)) nbA hK
  ·intro c21 h
   try simp (disch := omega) at c21
   try simp -implicitDefEqProofs (disch := omega) [go_sem]
   obtain ⟨x8, hx8, h⟩ := A4 h; refine A2.eqA (args' := [.sl 2 (a0.A9.map fun x => [.v (str x.fName), .v (str x.A6)]), .sl 1 (a0.Al.map fun x => [.v (.int .u8 x.toNat)])]) (by first | with_reducible rfl | (simp -implicitDefEqProofs (disch := omega) [go_sem] <;> omega)) (ML a0.A9 a0.Al hx8 ?_)
   try simp -implicitDefEqProofs (disch := omega) [go_sem]
   subst hc3; refine Ac h (by first | with_reducible rfl | (simp -implicitDefEqProofs (disch := omega) [go_sem] <;> omega)) rfl ?_ ?_
   ·intro c9 h
    try simp (disch := omega) at c9
    refine A1 fun cb hc10 => ?_; refine vcK ?_
    try simp -implicitDefEqProofs (disch := omega) [go_sem]
    subst hc10; refine IWp.gh (Gh.Lb 2 1 (by (simp -implicitDefEqProofs (disch := omega) [go_sem] <;> omega))) ?_; refine vcK ?_; simp -implicitDefEqProofs only [go_sem]; have er := Option.some.inj h; subst er
    try simp -implicitDefEqProofs (disch := omega) [go_sem]
    refine A3 (by exact A7 (Ext.refl hw)) (by first | with_reducible rfl | (simp -implicitDefEqProofs (disch := omega) [go_sem] <;> omega)) nbA hK
   ·intro c9 h
    try simp (disch := omega) at c9
    refine vcK ?_; simp -implicitDefEqProofs only [go_sem]; subst hc2; refine A1 fun cb hc11 => ?_; refine CJ [13] [0, 1, 2, 3, 4, 5, 6, 7, 8, 9, 10, 11, 12, 13, 14, 16, 17, 15, 18, 19, 20] (by kernel_rfl) (by kernel_rfl) (fun _ _ _ _ h => h) ?_; obtain ⟨g12, h⟩ := A8.1 h
    try simp (disch := omega) at g12
    obtain ⟨g13, h⟩ := A8.1 h
    try simp (disch := omega) at g13
    obtain ⟨g14, h⟩ := A8.1 h
    try simp (disch := omega) at g14
    obtain ⟨g15, h⟩ := A8.1 h
    try simp (disch := omega) at g15
    try simp -implicitDefEqProofs (disch := omega) [go_sem]
    obtain ⟨x16, hx16, h⟩ := A4 h; refine Dg.mkT (fun H0 => VOK prog H0) _ (by first | exact hV.of rfl | exact hV.of ((Ext.refl hw)).sn | exact hV.of (Ext.sn (H := H) (by exact A7 (Ext.refl hw))) | exact (VOK.of hV rfl).tok | exact (VOK.of hV ((Ext.refl hw)).sn).tok | exact (VOK.of hV (Ext.sn (H := H) (by exact A7 (Ext.refl hw)))).tok) (fun H0 K0 hT hK => A2.eqA (args' := [.v (.int .i64 (a0.Al.length : Int))]) (by first | with_reducible rfl | (simp -implicitDefEqProofs (disch := omega) [go_sem] <;> omega)) (Kq (a0.Al.length : Int) hT hx16 hK)) ?_; obtain ⟨g17, h⟩ := A8.1 h
    try simp (disch := omega) at g17
    try simp -implicitDefEqProofs (disch := omega) [go_sem]
    obtain ⟨x18, hx18, h⟩ := A4 h; refine A2.eqA (args' := [.v (str ((((a0.Ah ++ (([32]) : List UInt8)) ++ a0.Ax) ++ (([32]) : List UInt8)) ++ (([72, 84, 84, 80, 47, 49, 46, 49]) : List UInt8))), .sl 2 (a0.A9.map fun x => [.v (str x.fName), .v (str x.A6)]), .v (str ((([99, 111, 110, 116, 101, 110, 116, 45, 108, 101, 110, 103, 116, 104, 58, 32]) : List UInt8) ++ x16))]) (by first | with_reducible rfl | (simp -implicitDefEqProofs (disch := omega) [go_sem] <;> omega)) (Pz ((((a0.Ah ++ (([32]) : List UInt8)) ++ a0.Ax) ++ (([32]) : List UInt8)) ++ (([72, 84, 84, 80, 47, 49, 46, 49]) : List UInt8)) a0.A9 ((([99, 111, 110, 116, 101, 110, 116, 45, 108, 101, 110, 103, 116, 104, 58, 32]) : List UInt8) ++ x16) hx18 ?_); obtain ⟨g20, h⟩ := A8.1 h
    try simp (disch := omega) at g20
    try simp -implicitDefEqProofs (disch := omega) [go_sem]
    repeat refine ⟨hV, ?_⟩
    subst hc11; refine IWp.gh (Gh.freeze (d := 2) (k := H.next + 1) (sz := 1) (es := (x18 ++ a0.Al).map fun x => [.v (.int .u8 x.toNat)]) (by (simp -implicitDefEqProofs (disch := omega) [go_sem] <;> omega)) (by (simp -implicitDefEqProofs (disch := omega) [go_sem] <;> omega))) ?_; refine vcK ?_; simp -implicitDefEqProofs only [go_sem]; have er := Option.some.inj h; subst er
    try simp -implicitDefEqProofs (disch := omega) [go_sem]
    refine A3 (by exact A7 (Ext.refl hw)) (by first | with_reducible rfl | (simp -implicitDefEqProofs (disch := omega) [go_sem] <;> omega)) nbA hK
noncomputable def F64 (a0 : AE) : Option (Except Unit ((List UInt8) × AE)) :=
 (F88 a0.Bl.fb ([13, 10] : List UInt8)).bind fun (x3 : (List UInt8) × (List UInt8) × Bool) => if x3.2.2 = true then (some ((.ok ((x3.1, (⟨(⟨x3.2.1⟩ : S98)⟩ : AE)))))) else (some (.error ()))
set_option maxHeartbeats 8000000 in
set_option pp.deepTerms false in
set_option maxRecDepth 60000 in
theorem FN {H : A0} {K : An → A0 → Prop} (a0 : AE) (ka0 : Nat) (Ad : H.obj ka0 = some (.cells ([.sl 1 (a0.Bl.fb.map fun x => [.v (.int .u8 x.toNat)])]))) (hV : VOK prog H) {r : Except Unit ((List UInt8) × AE)} (h : F64 a0 = some r) (hP : ∀ e, r = .error e → K (.pan (Ci e)) (H.del ka0)) (hK : ∀ v : (List UInt8) × AE, r = .ok v → K (.ret (.v (str v.1))) (Dy H [(ka0, .cells ([.sl 1 (v.2.Bl.fb.map fun x => [.v (.int .u8 x.toNat)])]))])) : A2 prog 64 [.p ka0 0] H K := by
 refine Aa (N := 26) func64 (by kernel_rfl) rfl (by kernel_rfl) (by kernel_rfl) fun cb hcb hw hbd hnb => ?_; clear hbd hnb; subst hcb; unfold F64 at h; have O3 : ka0 < H.next := Nat.lt_of_not_le fun q => by rw [hw _ q] at Ad; cases Ad
 refine A1 fun cb hc1 => ?_; refine vcK ?_
 try simp -implicitDefEqProofs (disch := omega) [go_sem, Ad]
 subst hc1; refine A1 fun cb hc2 => ?_; refine vcK ?_
 try simp -implicitDefEqProofs (disch := omega) [go_sem, Ad]
 obtain ⟨x3, hx3, h⟩ := A4 h; refine A2.eqA (args' := [.sl 1 (a0.Bl.fb.map fun x => [.v (.int .u8 x.toNat)]), .sl 1 (([13, 10] : List UInt8).map fun x => [.v (.int .u8 x.toNat)])]) (by first | with_reducible rfl | (simp -implicitDefEqProofs (disch := omega) [go_sem, Ad] <;> omega)) (TD a0.Bl.fb ([13, 10] : List UInt8) (by first | exact hV.of rfl | exact hV.of ((Ext.Ao (Ext.refl hw) ka0)).sn | exact hV.of (Ext.sn (H := H) (by exact A7 (Ext.Ao (Ext.refl hw) ka0))) | exact (VOK.of hV rfl).tok | exact (VOK.of hV ((Ext.Ao (Ext.refl hw) ka0)).sn).tok | exact (VOK.of hV (Ext.sn (H := H) (by exact A7 (Ext.Ao (Ext.refl hw) ka0)))).tok) hx3 ?_)
 try simp -implicitDefEqProofs (disch := omega) [go_sem, Ad]
 subst hc2; refine A1 fun cb hc4 => ?_; refine vcK ?_
 try simp -implicitDefEqProofs (disch := omega) [go_sem, Ad]
 refine A2.eqA (args' := [.v (.bool x3.2.2)]) (by first | with_reducible rfl | (simp -implicitDefEqProofs (disch := omega) [go_sem, Ad] <;> omega)) ?_; by_cases m5 : ¬ (x3.2.2 = true)
 ·rw [if_neg m5] at h; refine Bn  (by first | simpa using m5 | exact Bool.eq_false_iff.2 (fun q => m5 (by simpa using q))) ?_
  try simp (disch := omega) at m5
  have er := Option.some.inj h; subst er
  try simp -implicitDefEqProofs (disch := omega) [go_sem, Ad]
  exact BA (by exact Bt (Ext.Ao (Ext.refl hw) ka0)) ((Dl.refl _).del ka0) (hP _ rfl)
 have m5 := Classical.not_not.1 m5; rw [if_pos m5] at h; refine CE  (by simpa using m5) ?_
 try simp (disch := omega) at m5
 try simp -implicitDefEqProofs (disch := omega) [go_sem, Ad]
 subst hc4; refine A1 fun cb hc6 => ?_; refine vcK ?_
 try simp -implicitDefEqProofs (disch := omega) [go_sem, Ad]
 subst hc6; refine A1 fun cb hc7 => ?_; refine vcK ?_
 try simp -implicitDefEqProofs (disch := omega) [go_sem, Ad]
 subst hc7; refine vcK ?_; simp -implicitDefEqProofs only [go_sem]; have er := Option.some.inj h; subst er
 try simp -implicitDefEqProofs (disch := omega) [go_sem, Ad]
 refine AN (r' := .v (str x3.1)) (io1 ka0 (.cells ([.sl 1 (x3.2.1.map fun x => [.v (.int .u8 x.toNat)])])) (by exact A7 (Ext.Ao (Ext.refl hw) ka0)) (by omega) (by first | with_reducible assumption | rfl | simp -implicitDefEqProofs (disch := omega) [go_sem, Ad]) (by first | exact nbA | exact BY | exact BN)) (by first | with_reducible rfl | (simp -implicitDefEqProofs (disch := omega) [go_sem, Ad] <;> omega)) (.same (by first | exact nbA | exact BY | exact BN)) (hK _ rfl)
noncomputable def F82 (a0 : List UInt8) (a1 : List UInt8) : Option Bool :=
 if (a1.length : Int) ≤ (a0.length : Int) then (gd (0 ≤ (a1.length : Int)) (gd ((a1.length : Int) ≤ a0.length) (some (decide (((a0.take (a1.length : Int).toNat)) = a1))))) else (some false)
set_option maxHeartbeats 8000000 in
set_option pp.deepTerms false in
set_option maxRecDepth 60000 in
theorem TQ {H : A0} {K : An → A0 → Prop} (a0 : List UInt8) (a1 : List UInt8) {r : Bool} (h : F82 a0 a1 = some r) (hK : K (.ret (.v (.bool r))) H) : A2 prog 82 [.v (str a0), .v (str a1)] H K := by
 refine Aa (N := 18) func82 (by kernel_rfl) rfl (by kernel_rfl) (by kernel_rfl) fun cb hcb hw hbd hnb => ?_; clear hbd hnb; subst hcb; unfold F82 at h; refine A1 fun cb hc1 => ?_; refine vcK ?_
 try simp -implicitDefEqProofs (disch := omega) [go_sem]
 subst hc1; refine A1 fun cb hc2 => ?_; refine vcK ?_
 try simp -implicitDefEqProofs (disch := omega) [go_sem]
 refine A5 h (by first | with_reducible rfl | (simp -implicitDefEqProofs (disch := omega) [go_sem] <;> omega)) ?_ ?_
 ·intro c5 h
  try simp (disch := omega) at c5
  obtain ⟨g3, h⟩ := A8.1 h
  try simp (disch := omega) at g3
  obtain ⟨g4, h⟩ := A8.1 h
  try simp (disch := omega) at g4
  try simp -implicitDefEqProofs (disch := omega) [go_sem]
  subst hc2; refine vcK ?_; simp -implicitDefEqProofs only [go_sem]; have er := Option.some.inj h; subst er
  try simp -implicitDefEqProofs (disch := omega) [go_sem]
  refine A3 (by exact A7 (Ext.refl hw)) (by first | with_reducible rfl | (simp -implicitDefEqProofs (disch := omega) [go_sem] <;> omega)) nbA hK
 ·intro c5 h
  try simp (disch := omega) at c5
  try simp -implicitDefEqProofs (disch := omega) [go_sem]
  subst hc2; refine vcK ?_; simp -implicitDefEqProofs only [go_sem]; have er := Option.some.inj h; subst er
  try simp -implicitDefEqProofs (disch := omega) [go_sem]
  refine A3 (by exact A7 (Ext.refl hw)) (by first | with_reducible rfl | (simp -implicitDefEqProofs (disch := omega) [go_sem] <;> omega)) nbA hK
noncomputable def F60 (a0 : List UInt8) (a1 : List UInt8) : Option ((List UInt8) × Bool) :=
 (F82 a0 a1).bind fun (x4 : Bool) => if ¬ (x4 = true) then (some (a0, false)) else (gd (0 ≤ (a1.length : Int)) (gd ((a1.length : Int) ≤ a0.length) (some ((a0.drop (a1.length : Int).toNat, true)))))
set_option maxHeartbeats 8000000 in
set_option pp.deepTerms false in
set_option maxRecDepth 60000 in
theorem TR {H : A0} {K : An → A0 → Prop} (a0 : List UInt8) (a1 : List UInt8) {r : (List UInt8) × Bool} (h : F60 a0 a1 = some r) (hK : K (.ret (.tu [.v (str r.1), .v (.bool r.2)])) H) : A2 prog 60 [.v (str a0), .v (str a1)] H K := by
 refine Aa (N := 15) func60 (by kernel_rfl) rfl (by kernel_rfl) (by kernel_rfl) fun cb hcb hw hbd hnb => ?_; clear hbd hnb; subst hcb; unfold F60 at h; refine A1 fun cb hc1 => ?_; refine vcK ?_
 try simp -implicitDefEqProofs (disch := omega) [go_sem]
 subst hc1; refine A1 fun cb hc2 => ?_; refine A1 fun cb hc3 => ?_; refine vcK ?_
 try simp -implicitDefEqProofs (disch := omega) [go_sem]
 obtain ⟨x4, hx4, h⟩ := A4 h; refine A2.eqA (args' := [.v (str a0), .v (str a1)]) (by first | with_reducible rfl | (simp -implicitDefEqProofs (disch := omega) [go_sem] <;> omega)) (TQ a0 a1 hx4 ?_)
 try simp -implicitDefEqProofs (disch := omega) [go_sem]
 subst hc3; refine Ac h (by first | with_reducible rfl | (simp -implicitDefEqProofs (disch := omega) [go_sem] <;> omega)) rfl ?_ ?_
 ·intro c5 h
  try simp (disch := omega) at c5
  refine A1 fun cb hc6 => ?_; refine vcK ?_
  try simp -implicitDefEqProofs (disch := omega) [go_sem]
  subst hc6; refine vcK ?_; simp -implicitDefEqProofs only [go_sem]; have er := Option.some.inj h; subst er
  try simp -implicitDefEqProofs (disch := omega) [go_sem]
  refine A3 (by exact A7 (Ext.refl hw)) (by first | with_reducible rfl | (simp -implicitDefEqProofs (disch := omega) [go_sem] <;> omega)) nbA hK
 ·intro c5 h
  try simp (disch := omega) at c5
  refine vcK ?_; simp -implicitDefEqProofs only [go_sem]; subst hc2; refine A1 fun cb hc7 => ?_; refine vcK ?_; obtain ⟨g8, h⟩ := A8.1 h
  try simp (disch := omega) at g8
  obtain ⟨g9, h⟩ := A8.1 h
  try simp (disch := omega) at g9
  try simp -implicitDefEqProofs (disch := omega) [go_sem]
  subst hc7; refine vcK ?_; simp -implicitDefEqProofs only [go_sem]; have er := Option.some.inj h; subst er
  try simp -implicitDefEqProofs (disch := omega) [go_sem]
  refine A3 (by exact A7 (Ext.refl hw)) (by first | with_reducible rfl | (simp -implicitDefEqProofs (disch := omega) [go_sem] <;> omega)) nbA hK
noncomputable def F31 (a0 : List UInt8) (a1 : List UInt8) : Option ((List UInt8) × Bool) :=
 (F60 a0 a1).bind fun (x3 : (List UInt8) × Bool) => some (x3.1, x3.2)
set_option maxHeartbeats 8000000 in
set_option pp.deepTerms false in
set_option maxRecDepth 60000 in
theorem TS {H : A0} {K : An → A0 → Prop} (a0 : List UInt8) (a1 : List UInt8) {r : (List UInt8) × Bool} (h : F31 a0 a1 = some r) (hK : K (.ret (.tu [.v (str r.1), .v (.bool r.2)])) H) : A2 prog 31 [.v (str a0), .v (str a1)] H K := by
 refine Aa (N := 11) func31 (by kernel_rfl) rfl (by kernel_rfl) (by kernel_rfl) fun cb hcb hw hbd hnb => ?_; clear hbd hnb; subst hcb; unfold F31 at h; refine A1 fun cb hc1 => ?_; refine vcK ?_
 try simp -implicitDefEqProofs (disch := omega) [go_sem]
 subst hc1; refine A1 fun cb hc2 => ?_; refine vcK ?_
 try simp -implicitDefEqProofs (disch := omega) [go_sem]
 obtain ⟨x3, hx3, h⟩ := A4 h; refine A2.eqA (args' := [.v (str a0), .v (str a1)]) (by first | with_reducible rfl | (simp -implicitDefEqProofs (disch := omega) [go_sem] <;> omega)) (TR a0 a1 hx3 ?_)
 try simp -implicitDefEqProofs (disch := omega) [go_sem]
 subst hc2; refine vcK ?_; simp -implicitDefEqProofs only [go_sem]; have er := Option.some.inj h; subst er
 try simp -implicitDefEqProofs (disch := omega) [go_sem]
 refine A3 (by exact A7 (Ext.refl hw)) (by first | with_reducible rfl | (simp -implicitDefEqProofs (disch := omega) [go_sem] <;> omega)) nbA hK
noncomputable def F26 (a0 : Int) : Option Bool :=
 if 100 ≤ a0 then (some (decide (a0 ≤ 599))) else (some false)
set_option maxHeartbeats 8000000 in
set_option pp.deepTerms false in
set_option maxRecDepth 60000 in
theorem TT {H : A0} {K : An → A0 → Prop} (a0 : Int) {r : Bool} (h : F26 a0 = some r) (hK : K (.ret (.v (.bool r))) H) : A2 prog 26 [.v (.int .i64 a0)] H K := by
 refine Aa (N := 9) func26 (by kernel_rfl) rfl (by kernel_rfl) (by kernel_rfl) fun cb hcb hw hbd hnb => ?_; clear hbd hnb; subst hcb; unfold F26 at h; refine A1 fun cb hc1 => ?_; refine vcK ?_
 try simp -implicitDefEqProofs (disch := omega) [go_sem]
 subst hc1; refine A1 fun cb hc2 => ?_; refine vcK ?_
 try simp -implicitDefEqProofs (disch := omega) [go_sem]
 refine A5 h (by first | with_reducible rfl | (simp -implicitDefEqProofs (disch := omega) [go_sem] <;> omega)) ?_ ?_
 ·intro c3 h
  try simp (disch := omega) at c3
  try simp -implicitDefEqProofs (disch := omega) [go_sem]
  subst hc2; refine vcK ?_; simp -implicitDefEqProofs only [go_sem]; have er := Option.some.inj h; subst er
  try simp -implicitDefEqProofs (disch := omega) [go_sem]
  refine A3 (by exact A7 (Ext.refl hw)) (by first | with_reducible rfl | (simp -implicitDefEqProofs (disch := omega) [go_sem] <;> omega)) nbA hK
 ·intro c3 h
  try simp (disch := omega) at c3
  try simp -implicitDefEqProofs (disch := omega) [go_sem]
  subst hc2; refine vcK ?_; simp -implicitDefEqProofs only [go_sem]; have er := Option.some.inj h; subst er
  try simp -implicitDefEqProofs (disch := omega) [go_sem]
  refine A3 (by exact A7 (Ext.refl hw)) (by first | with_reducible rfl | (simp -implicitDefEqProofs (disch := omega) [go_sem] <;> omega)) nbA hK
noncomputable def F35 (a0 : Int) : Option Bool :=
 if 32 ≤ a0 then (some (decide (a0 ≤ 126))) else (some false)
set_option maxHeartbeats 8000000 in
set_option pp.deepTerms false in
set_option maxRecDepth 60000 in
theorem TU {H : A0} {K : An → A0 → Prop} (a0 : Int) {r : Bool} (h : F35 a0 = some r) (hK : K (.ret (.v (.bool r))) H) : A2 prog 35 [.v (.int .u8 a0)] H K := by
 refine Aa (N := 9) func35 (by kernel_rfl) rfl (by kernel_rfl) (by kernel_rfl) fun cb hcb hw hbd hnb => ?_; clear hbd hnb; subst hcb; unfold F35 at h; refine A1 fun cb hc1 => ?_; refine vcK ?_
 try simp -implicitDefEqProofs (disch := omega) [go_sem]
 subst hc1; refine A1 fun cb hc2 => ?_; refine vcK ?_
 try simp -implicitDefEqProofs (disch := omega) [go_sem]
 refine A5 h (by first | with_reducible rfl | (simp -implicitDefEqProofs (disch := omega) [go_sem] <;> omega)) ?_ ?_
 ·intro c3 h
  try simp (disch := omega) at c3
  try simp -implicitDefEqProofs (disch := omega) [go_sem]
  subst hc2; refine vcK ?_; simp -implicitDefEqProofs only [go_sem]; have er := Option.some.inj h; subst er
  try simp -implicitDefEqProofs (disch := omega) [go_sem]
  refine A3 (by exact A7 (Ext.refl hw)) (by first | with_reducible rfl | (simp -implicitDefEqProofs (disch := omega) [go_sem] <;> omega)) nbA hK
 ·intro c3 h
  try simp (disch := omega) at c3
  try simp -implicitDefEqProofs (disch := omega) [go_sem]
  subst hc2; refine vcK ?_; simp -implicitDefEqProofs only [go_sem]; have er := Option.some.inj h; subst er
  try simp -implicitDefEqProofs (disch := omega) [go_sem]
  refine A3 (by exact A7 (Ext.refl hw)) (by first | with_reducible rfl | (simp -implicitDefEqProofs (disch := omega) [go_sem] <;> omega)) nbA hK
end Go.Idl
namespace Go.Idl
open Go Go.Proofs.Tryz
noncomputable def Gr  : Option Bool :=
 some true
noncomputable def EM (a0 : List UInt8) (v6 : Int) : Option (Int ⊕ (Unit ⊕ Bool)) :=
 if v6 < (a0.length : Int) then (gd (0 ≤ v6 ∧ v6 < a0.length) ((F35 (((a0.getD v6.toNat 0).toNat : Int))).bind fun (x15 : Bool) => if ¬ (x15 = true) then (some (.inr (.inr false))) else (some (.inl (IntKind.i64.wrap (v6 + 1)))))) else (some (.inr (.inl ())))
noncomputable def JN (a0 : List UInt8) : Option Bool :=
 gd ((a0.length : Int) ≤ 9223372036854775807) ((AY (fun (s : Int) => EM a0 s) 0).bind fun y => Sum.elim (fun (e : Unit) => Gr) (fun (q : Bool) => some q) y)
set_option maxHeartbeats 8000000 in
set_option pp.deepTerms false in
set_option maxRecDepth 60000 in
theorem PA {H : A0} {K : An → A0 → Prop} (a0 : List UInt8) {r : Bool} (h : JN a0 = some r) (hK : K (.ret (.v (.bool r))) H) : A2 prog 34 [.v (str a0), .v (.func (.func 35) #[] #[])] H K := by
 refine Aa (N := 19) func34 (by kernel_rfl) rfl (by kernel_rfl) (by kernel_rfl) fun cb hcb hw hbd hnb => ?_; clear hbd hnb; subst hcb; unfold JN at h; refine A1 fun cb hc1 => ?_; refine vcK ?_
 try simp -implicitDefEqProofs (disch := omega) [go_sem]
 subst hc1; refine A1 fun cb hc2 => ?_; refine A1 fun cb hc3 => ?_; refine vcK ?_; obtain ⟨g4, h⟩ := A8.1 h
 try simp (disch := omega) at g4
 try simp -implicitDefEqProofs (disch := omega) [go_sem]
 refine CQ a0 rfl (by kernel_rfl) underlying9 underlying23 underlying5 (by first | with_reducible rfl | (simp -implicitDefEqProofs (disch := omega) [go_sem]; done) | rfl) (by first | omega | decide | (simp; omega) | (simp (disch := omega); omega)) ?_
 try simp -implicitDefEqProofs (disch := omega) [go_sem]
 subst hc3; obtain ⟨y5, hl5q, hk5⟩ := A4 h; refine AZ (fun tm' H' => .inl () = y5 ∧ H = H') ?_ fun cb hc5 => ?_
 ·rintro tm5e H5e ⟨rfl, rfl⟩
  have h : Gr = some r := hk5; unfold Gr at h; simp -implicitDefEqProofs only [go_sem]; subst hc2; refine A1 fun cb hc7 => ?_; refine vcK ?_
  try simp -implicitDefEqProofs (disch := omega) [go_sem]
  subst hc7; refine vcK ?_; simp -implicitDefEqProofs only [go_sem]; have er := Option.some.inj h; subst er
  try simp -implicitDefEqProofs (disch := omega) [go_sem]
  refine A3 (by exact A7 (Ext.refl hw)) (by first | with_reducible rfl | (simp -implicitDefEqProofs (disch := omega) [go_sem] <;> omega)) nbA hK
 ·refine Ag ?_; refine AQ (fun (s : Int) tm' H' => H = H' ∧ tm' 1 = .v (.func (.func 35) #[] #[]) ∧ tm' 8 = .sl 1 (a0.map fun x => [.v (.int .u8 x.toNat)]) ∧ tm' 9 = .v (.int .i64 (a0.length : Int)) ∧ tm' 10 = .v (.int .i64 s)) hl5q ?_ ?_
  ·refine .same ⟨rfl, ?_, ?_, ?_, ?_⟩ <;> first | with_reducible rfl | with_reducible assumption | (simp -implicitDefEqProofs (disch := omega) [go_sem] <;> omega)
  ·rintro I5 hI5 v6 x5 tm5 H5 ⟨rfl, BB, Am, BC, AS⟩ h hret5
   replace h : EM a0 v6 = some x5 := h; unfold EM at h; refine A1 fun cb hc8 => ?_; refine vcK ?_
   try simp -implicitDefEqProofs (disch := omega) [go_sem, BB, Am, BC, AS]
   subst hc8; refine A1 fun cb hc9 => ?_; refine Ac h (by first | with_reducible rfl | (simp -implicitDefEqProofs (disch := omega) [go_sem, BB, Am, BC, AS] <;> omega)) rfl ?_ ?_
   ·intro c10 h
    try simp (disch := omega) at c10
    refine vcK ?_; simp -implicitDefEqProofs only [go_sem]; subst hc9; refine A1 fun cb hc11 => ?_; refine Ag ?_; refine A1 fun cb hc12 => ?_; refine vcK ?_; obtain ⟨g13, h⟩ := A8.1 h
    try simp (disch := omega) at g13
    try simp -implicitDefEqProofs (disch := omega) [go_sem, BB, Am, BC, AS]
    subst hc12; refine A1 fun cb hc14 => ?_; refine vcK ?_
    try simp -implicitDefEqProofs (disch := omega) [go_sem, BB, Am, BC, AS]
    obtain ⟨x15, hx15, h⟩ := A4 h; refine A2.eqA (args' := [.v (.int .u8 (((a0.getD v6.toNat 0).toNat : Int)))]) (by first | with_reducible rfl | (simp -implicitDefEqProofs (disch := omega) [go_sem, BB, Am, BC, AS] <;> omega)) (TU (((a0.getD v6.toNat 0).toNat : Int)) hx15 ?_)
    try simp -implicitDefEqProofs (disch := omega) [go_sem, BB, Am, BC, AS]
    subst hc14; refine Ac h (by first | with_reducible rfl | (simp -implicitDefEqProofs (disch := omega) [go_sem, BB, Am, BC, AS] <;> omega)) rfl ?_ ?_
    ·intro c16 h
     try simp (disch := omega) at c16
     refine A1 fun cb hc17 => ?_; refine vcK ?_
     try simp -implicitDefEqProofs (disch := omega) [go_sem, BB, Am, BC, AS]
     subst hc17; refine vcK ?_; simp -implicitDefEqProofs only [go_sem]; have e5 := Option.some.inj h; subst e5; have e5 := hret5 _ rfl; subst e5; replace h : some false = some r := hk5; have er := Option.some.inj h; subst er
     try simp -implicitDefEqProofs (disch := omega) [go_sem, BB, Am, BC, AS]
     refine A3 (by exact A7 (Ext.refl hw)) (by first | with_reducible rfl | (simp -implicitDefEqProofs (disch := omega) [go_sem, BB, Am, BC, AS] <;> omega)) nbA hK
    ·intro c16 h
     try simp (disch := omega) at c16
     refine vcK ?_; simp -implicitDefEqProofs only [go_sem]; subst hc11; refine vcK ?_
     try simp -implicitDefEqProofs (disch := omega) [go_sem, BB, Am, BC, AS]
     have e5 := Option.some.inj h; subst e5; refine Ap hI5 (IntKind.i64.wrap (v6 + 1)) ?_; refine .same ⟨rfl, ?_, ?_, ?_, ?_⟩ <;> first | with_reducible rfl | with_reducible assumption | (simp -implicitDefEqProofs (disch := omega) [go_sem, BB, Am, BC, AS] <;> omega)
   ·intro c10 h
    try simp (disch := omega) at c10
    refine vcK ?_; simp -implicitDefEqProofs only [go_sem]; have e5 := Option.some.inj h; subst e5; have hy5 := hret5 _ rfl; refine hc5 _ _ ?_; refine .same ⟨hy5, rfl⟩
noncomputable def F30 (a0 : List UInt8) : Option (Except Unit (S25)) :=
 (F31 a0 ([72, 84, 84, 80, 47, 49, 46, 49, 32])).bind fun (x3 : (List UInt8) × Bool) => if x3.2 = true then (if 3 ≤ (x3.1.length : Int) then (gd (0 ≤ 3) (gd (3 ≤ x3.1.length) ((F33 (x3.1.take 3)).bind fun (x9 : Int × Bool) => if ¬ x9.2 = true then ((F26 x9.1).bind fun (x12 : Bool) => if x12 = true then ((F29 x9.1).bind fun (x13 : (List UInt8)) => if x13 = (x3.1.take 3) then (if (x3.1.drop 3) = [] then (some ((.ok (⟨x9.1, [], []⟩ : S25)))) else (gd (0 < (x3.1.drop 3).length) (if ((((x3.1.drop 3).getD 0 0).toNat : Int)) = 32 then ((JN (x3.1.drop 3)).bind fun (x16 : Bool) => if x16 = true then (some ((.ok (⟨x9.1, [], []⟩ : S25)))) else (some (.error ()))) else (some (.error ()))))) else (some (.error ()))) else (some (.error ()))) else (some (.error ()))))) else (some (.error ()))) else (some (.error ()))
set_option maxHeartbeats 8000000 in
set_option pp.deepTerms false in
set_option maxRecDepth 60000 in
theorem TV {H : A0} {K : An → A0 → Prop} (a0 : List UInt8) (hV : VOK prog H) {r : Except Unit (S25)} (h : F30 a0 = some r) (hP : ∀ e, r = .error e → K (.pan (Ci e)) H) (hK : ∀ v : S25, r = .ok v → K (.ret (.ag ([.v (.int .i64 v.Em), .sl 2 (v.A9.map fun x => [.v (str x.fName), .v (str x.A6)]), .sl 1 (v.Al.map fun x => [.v (.int .u8 x.toNat)])]))) H) : A2 prog 30 [.v (str a0)] H K := by
 refine Aa (N := 57) func30 (by kernel_rfl) rfl (by kernel_rfl) (by kernel_rfl) fun cb hcb hw hbd hnb => ?_; clear hbd hnb; subst hcb; unfold F30 at h; refine A1 fun cb hc1 => ?_; refine vcK ?_
 try simp -implicitDefEqProofs (disch := omega) [go_sem, bdP]
 subst hc1; refine A1 fun cb hc2 => ?_; refine vcK ?_
 try simp -implicitDefEqProofs (disch := omega) [go_sem, bdP]
 obtain ⟨x3, hx3, h⟩ := A4 h; refine A2.eqA (args' := [.v (str a0), .v (str ([72, 84, 84, 80, 47, 49, 46, 49, 32]))]) (by first | with_reducible rfl | (simp -implicitDefEqProofs (disch := omega) [go_sem, bdP] <;> omega)) (TS a0 ([72, 84, 84, 80, 47, 49, 46, 49, 32]) hx3 ?_)
 try simp -implicitDefEqProofs (disch := omega) [go_sem, bdP]
 subst hc2; refine A1 fun cb hc4 => ?_; refine vcK ?_
 try simp -implicitDefEqProofs (disch := omega) [go_sem, bdP]
 refine A5 h (by first | with_reducible rfl | (simp -implicitDefEqProofs (disch := omega) [go_sem, bdP] <;> omega)) ?_ ?_
 ·intro c24 h
  try simp (disch := omega) at c24
  try simp -implicitDefEqProofs (disch := omega) [go_sem, bdP]
  refine A2.eqA (args' := [.v (.bool (decide (3 ≤ (x3.1.length : Int))))]) (by first | with_reducible rfl | (simp -implicitDefEqProofs (disch := omega) [go_sem, bdP] <;> omega)) ?_; by_cases m5 : ¬ (3 ≤ (x3.1.length : Int))
  ·rw [if_neg m5] at h; refine Bn  (by first | simpa using m5 | exact Bool.eq_false_iff.2 (fun q => m5 (by simpa using q))) ?_
   try simp (disch := omega) at m5
   have er := Option.some.inj h; subst er
   try simp -implicitDefEqProofs (disch := omega) [go_sem, bdP]
   exact BA (by exact Bt (Ext.refl hw)) (Dl.refl _) (hP _ rfl)
  have m5 := Classical.not_not.1 m5; rw [if_pos m5] at h; refine CE  (by simpa using m5) ?_
  try simp (disch := omega) at m5
  try simp -implicitDefEqProofs (disch := omega) [go_sem, bdP]
  subst hc4; refine A1 fun cb hc6 => ?_; refine vcK ?_; obtain ⟨g7, h⟩ := A8.1 h
  try simp (disch := omega) at g7
  obtain ⟨g8, h⟩ := A8.1 h
  try simp (disch := omega) at g8
  try simp -implicitDefEqProofs (disch := omega) [go_sem, bdP]
  obtain ⟨x9, hx9, h⟩ := A4 h; refine A2.eqA (args' := [.v (str (x3.1.take 3))]) (by first | with_reducible rfl | (simp -implicitDefEqProofs (disch := omega) [go_sem, bdP] <;> omega)) (MI (x3.1.take 3) (by first | exact hV.of rfl | exact hV.of ((Ext.refl hw)).sn | exact hV.of (Ext.sn (H := H) (by exact A7 (Ext.refl hw))) | exact (VOK.of hV rfl).tok | exact (VOK.of hV ((Ext.refl hw)).sn).tok | exact (VOK.of hV (Ext.sn (H := H) (by exact A7 (Ext.refl hw)))).tok) hx9 ?_)
  try simp -implicitDefEqProofs (disch := omega) [go_sem, bdP]
  subst hc6; refine A1 fun cb hc10 => ?_; refine vcK ?_
  try simp -implicitDefEqProofs (disch := omega) [go_sem, bdP]
  subst hc10; refine A1 fun cb hc11 => ?_; refine CJ [4, 8, 22] [0, 1, 2, 3, 4, 5, 6, 7, 8, 9, 10, 11, 12, 13, 14, 15, 16, 17, 18, 19, 20, 21, 22, 23, 24, 25, 26] (by kernel_rfl) (by kernel_rfl) (fun _ _ _ _ h => h) ?_
  try simp -implicitDefEqProofs (disch := omega) [go_sem, bdP]
  refine A5 h (by first | with_reducible rfl | (simp -implicitDefEqProofs (disch := omega) [go_sem, bdP] <;> omega)) ?_ ?_
  ·intro c23 h
   try simp (disch := omega) at c23
   try simp -implicitDefEqProofs (disch := omega) [go_sem, bdP]
   obtain ⟨x12, hx12, h⟩ := A4 h; refine Dg.mk _ (fun _ _ hK => A2.eqA (args' := [.v (.int .i64 x9.1)]) (by first | with_reducible rfl | (simp -implicitDefEqProofs (disch := omega) [go_sem, bdP] <;> omega)) (TT x9.1 hx12 hK)) ?_
   try simp -implicitDefEqProofs (disch := omega) [go_sem, bdP]
   refine A5 h (by first | with_reducible rfl | (simp -implicitDefEqProofs (disch := omega) [go_sem, bdP] <;> omega)) ?_ ?_
   ·intro c22 h
    try simp (disch := omega) at c22
    try simp -implicitDefEqProofs (disch := omega) [go_sem, bdP]
    obtain ⟨x13, hx13, h⟩ := A4 h; refine Dg.mkT (fun H0 => VOK prog H0) _ (by first | exact hV.of rfl | exact hV.of ((Ext.refl hw)).sn | exact hV.of (Ext.sn (H := H) (by exact A7 (Ext.refl hw))) | exact (VOK.of hV rfl).tok | exact (VOK.of hV ((Ext.refl hw)).sn).tok | exact (VOK.of hV (Ext.sn (H := H) (by exact A7 (Ext.refl hw)))).tok) (fun H0 K0 hT hK => A2.eqA (args' := [.v (.int .i64 x9.1)]) (by first | with_reducible rfl | (simp -implicitDefEqProofs (disch := omega) [go_sem, bdP] <;> omega)) (Kq x9.1 hT hx13 hK)) ?_
    try simp -implicitDefEqProofs (disch := omega) [go_sem, bdP]
    refine A5 h (by first | with_reducible rfl | (simp -implicitDefEqProofs (disch := omega) [go_sem, bdP] <;> omega)) ?_ ?_
    ·intro c21 h
     try simp (disch := omega) at c21
     try simp -implicitDefEqProofs (disch := omega) [go_sem, bdP]
     refine A5 h (by first | with_reducible rfl | (simp -implicitDefEqProofs (disch := omega) [go_sem, bdP] <;> omega)) ?_ ?_
     ·intro c20 h
      try simp (disch := omega) at c20
      try simp -implicitDefEqProofs (disch := omega) [go_sem, bdP]
      refine A2.eqA (args' := [.v (.bool true)]) (by first | with_reducible rfl | (simp -implicitDefEqProofs (disch := omega) [go_sem, bdP] <;> omega)) (CE  rfl ?_)
      try simp -implicitDefEqProofs (disch := omega) [go_sem, bdP]
      repeat refine ⟨hV, ?_⟩
      subst hc11; refine A1 fun cb hc14 => ?_; refine vcK ?_
      try simp -implicitDefEqProofs (disch := omega) [go_sem, bdP]
      subst hc14; refine vcK ?_; simp -implicitDefEqProofs only [go_sem]; have er := Option.some.inj h; subst er
      try simp -implicitDefEqProofs (disch := omega) [go_sem, bdP]
      refine AN (J := H) (r' := _) (Ext.DN (by exact A7 (Ext.refl hw))) (by first | with_reducible rfl | (simp -implicitDefEqProofs (disch := omega) [go_sem, bdP] <;> omega)) (.wk _ (.ag ([.v (.int .i64 x9.1), .sl 2 (([] : List S55).map fun x => [.v (str x.fName), .v (str x.A6)]), .sl 1 (([] : List UInt8).map fun x => [.v (.int .u8 x.toNat)])])) (by repeat (first | exact WkL.nil | refine WkL.cons ?_ ?_ | exact Wk.refl _ | exact Wk.nil _ | refine Wk.agL ?_ | refine Wk.tuL ?_ | (refine Wk.eqv ?_; focus (simp -implicitDefEqProofs (disch := omega) [go_sem, str]; done)))) (by first | exact nbA | exact BY | exact BN)) (hK _ rfl)
     ·intro c20 h
      try simp (disch := omega) at c20
      obtain ⟨g15, h⟩ := A8.1 h
      try simp (disch := omega) at g15
      try simp -implicitDefEqProofs (disch := omega) [go_sem, bdP]
      refine A5 h (by first | with_reducible rfl | (simp -implicitDefEqProofs (disch := omega) [go_sem, bdP] <;> omega)) ?_ ?_
      ·intro c19 h
       try simp (disch := omega) at c19
       try simp -implicitDefEqProofs (disch := omega) [go_sem, bdP]
       obtain ⟨x16, hx16, h⟩ := A4 h; refine Dg.mk _ (fun _ _ hK => A2.eqA (args' := [.v (str (x3.1.drop 3)), .v (.func (.func 35) #[] #[])]) (by first | with_reducible rfl | (simp -implicitDefEqProofs (disch := omega) [go_sem, bdP] <;> omega)) (PA (x3.1.drop 3) hx16 hK)) ?_
       try simp -implicitDefEqProofs (disch := omega) [go_sem, bdP]
       refine A2.eqA (args' := [.v (.bool x16)]) (by first | with_reducible rfl | (simp -implicitDefEqProofs (disch := omega) [go_sem, bdP] <;> omega)) ?_; by_cases m17 : ¬ (x16 = true)
       ·rw [if_neg m17] at h; refine Bn  (by first | simpa using m17 | exact Bool.eq_false_iff.2 (fun q => m17 (by simpa using q))) ?_
        try simp (disch := omega) at m17
        have er := Option.some.inj h; subst er
        try simp -implicitDefEqProofs (disch := omega) [go_sem, bdP]
        exact BA (by exact Bt (Ext.refl hw)) (Dl.refl _) (hP _ rfl)
       have m17 := Classical.not_not.1 m17; rw [if_pos m17] at h; refine CE  (by simpa using m17) ?_
       try simp (disch := omega) at m17
       try simp -implicitDefEqProofs (disch := omega) [go_sem, bdP]
       repeat refine ⟨hV, ?_⟩
       subst hc11; refine A1 fun cb hc18 => ?_; refine vcK ?_
       try simp -implicitDefEqProofs (disch := omega) [go_sem, bdP]
       subst hc18; refine vcK ?_; simp -implicitDefEqProofs only [go_sem]; have er := Option.some.inj h; subst er
       try simp -implicitDefEqProofs (disch := omega) [go_sem, bdP]
       refine AN (J := H) (r' := _) (Ext.DN (by exact A7 (Ext.refl hw))) (by first | with_reducible rfl | (simp -implicitDefEqProofs (disch := omega) [go_sem, bdP] <;> omega)) (.wk _ (.ag ([.v (.int .i64 x9.1), .sl 2 (([] : List S55).map fun x => [.v (str x.fName), .v (str x.A6)]), .sl 1 (([] : List UInt8).map fun x => [.v (.int .u8 x.toNat)])])) (by repeat (first | exact WkL.nil | refine WkL.cons ?_ ?_ | exact Wk.refl _ | exact Wk.nil _ | refine Wk.agL ?_ | refine Wk.tuL ?_ | (refine Wk.eqv ?_; focus (simp -implicitDefEqProofs (disch := omega) [go_sem, str]; done)))) (by first | exact nbA | exact BY | exact BN)) (hK _ rfl)
      ·intro c19 h
       try simp (disch := omega) at c19
       try simp -implicitDefEqProofs (disch := omega) [go_sem, bdP]
       refine A2.eqA (args' := [.v (.bool false)]) (by first | with_reducible rfl | (simp -implicitDefEqProofs (disch := omega) [go_sem, bdP] <;> omega)) (Bn  rfl ?_); have er := Option.some.inj h; subst er
       try simp -implicitDefEqProofs (disch := omega) [go_sem, bdP]
       exact BA (by exact Bt (Ext.refl hw)) (Dl.refl _) (hP _ rfl)
    ·intro c21 h
     try simp (disch := omega) at c21
     try simp -implicitDefEqProofs (disch := omega) [go_sem, bdP]
     refine A2.eqA (args' := [.v (.bool false)]) (by first | with_reducible rfl | (simp -implicitDefEqProofs (disch := omega) [go_sem, bdP] <;> omega)) (Bn  rfl ?_); have er := Option.some.inj h; subst er
     try simp -implicitDefEqProofs (disch := omega) [go_sem, bdP]
     exact BA (by exact Bt (Ext.refl hw)) (Dl.refl _) (hP _ rfl)
   ·intro c22 h
    try simp (disch := omega) at c22
    try simp -implicitDefEqProofs (disch := omega) [go_sem, bdP]
    refine A2.eqA (args' := [.v (.bool false)]) (by first | with_reducible rfl | (simp -implicitDefEqProofs (disch := omega) [go_sem, bdP] <;> omega)) (Bn  rfl ?_); have er := Option.some.inj h; subst er
    try simp -implicitDefEqProofs (disch := omega) [go_sem, bdP]
    exact BA (by exact Bt (Ext.refl hw)) (Dl.refl _) (hP _ rfl)
  ·intro c23 h
   try simp (disch := omega) at c23
   try simp -implicitDefEqProofs (disch := omega) [go_sem, bdP]
   refine A2.eqA (args' := [.v (.bool false)]) (by first | with_reducible rfl | (simp -implicitDefEqProofs (disch := omega) [go_sem, bdP] <;> omega)) (Bn  rfl ?_); have er := Option.some.inj h; subst er
   try simp -implicitDefEqProofs (disch := omega) [go_sem, bdP]
   exact BA (by exact Bt (Ext.refl hw)) (Dl.refl _) (hP _ rfl)
 ·intro c24 h
  try simp (disch := omega) at c24
  try simp -implicitDefEqProofs (disch := omega) [go_sem, bdP]
  refine A2.eqA (args' := [.v (.bool false)]) (by first | with_reducible rfl | (simp -implicitDefEqProofs (disch := omega) [go_sem, bdP] <;> omega)) (Bn  rfl ?_); have er := Option.some.inj h; subst er
  try simp -implicitDefEqProofs (disch := omega) [go_sem, bdP]
  exact BA (by exact Bt (Ext.refl hw)) (Dl.refl _) (hP _ rfl)
noncomputable def MQ (v11 : AE) (v12 : List (List UInt8 × (List UInt8))) : Option (Except Unit ((List (List UInt8 × (List UInt8))) × AE)) :=
 some ((.ok (v12, v11)))
noncomputable def EN (v8 : List UInt8) (v9 : AE) (v10 : List (List UInt8 × (List UInt8))) : Option (((List UInt8) × AE × (List (List UInt8 × (List UInt8)))) ⊕ ((AE × (List (List UInt8 × (List UInt8)))) ⊕ (Except Unit ((List (List UInt8 × (List UInt8))) × AE)))) :=
 if ¬ v8 = [] then ((F89 v8 ([58])).bind fun (x19 : (List UInt8) × (List UInt8) × Bool) => (F80 x19.2.1 ([32, 9])).bind fun (x21 : (List UInt8)) => (F57 x19.1).bind fun (x23 : (List UInt8)) => if x19.2.2 = true then ((F56 x19.1).bind fun (x25 : Bool) => if x25 = true then ((F58 x21).bind fun (x26 : Bool) => if x26 = true then (if ¬ ((BU v10 x23).isSome = true) then ((F57 x19.1).bind fun (x28 : (List UInt8)) => (F64 v9).bind fun (x30 : Except Unit ((List UInt8) × AE)) => orP x30 (fun (ex30 : Unit) => some (.inr (.inr (.error ex30)))) (fun (y31 : (List UInt8) × AE) => some (.inl (y31.1, y31.2, Mi v10 x28 x21)))) else (some (.inr (.inr (.error ()))))) else (some (.inr (.inr (.error ()))))) else (some (.inr (.inr (.error ()))))) else (some (.inr (.inr (.error ()))))) else (some (.inr (.inl (v9, v10))))
noncomputable def F65 (a0 : AE) : Option (Except Unit ((List (List UInt8 × (List UInt8))) × AE)) :=
 (F64 a0).bind fun (x5 : Except Unit ((List UInt8) × AE)) => orP x5 (fun (ex5 : Unit) => some (.error ex5)) (fun (y6 : (List UInt8) × AE) => (AY (fun (s : (List UInt8) × AE × (List (List UInt8 × (List UInt8)))) => EN s.1 s.2.1 s.2.2) (y6.1, y6.2, [])).bind fun y => Sum.elim (fun (e : AE × (List (List UInt8 × (List UInt8)))) => MQ e.1 e.2) (fun (q : Except Unit ((List (List UInt8 × (List UInt8))) × AE)) => some q) y)
set_option maxHeartbeats 8000000 in
set_option pp.deepTerms false in
set_option maxRecDepth 60000 in
theorem PB {H : A0} {K : An → A0 → Prop} (a0 : AE) (ka0 : Nat) (Ad : H.obj ka0 = some (.cells ([.sl 1 (a0.Bl.fb.map fun x => [.v (.int .u8 x.toNat)])]))) (hV : VOK prog H) {r : Except Unit ((List (List UInt8 × (List UInt8))) × AE)} (h : F65 a0 = some r) (hP : ∀ e, r = .error e → K (.pan (Ci e)) (H.del ka0)) (hK : ∀ v : (List (List UInt8 × (List UInt8))) × AE, r = .ok v → K (.ret (.mp H.next)) (newL (Dy H [(ka0, .cells ([.sl 1 (v.2.Bl.fb.map fun x => [.v (.int .u8 x.toNat)])]))]) [.map (mE (fun (x : List UInt8) => .v (str x)) v.1)])) : A2 prog 65 [.p ka0 0] H K := by
 refine Aa (N := 51) func65 (by kernel_rfl) rfl (by kernel_rfl) (by kernel_rfl) fun cb hcb hw hbd hnb => ?_; clear hbd hnb; subst hcb; unfold F65 at h; have O3 : ka0 < H.next := Nat.lt_of_not_le fun q => by rw [hw _ q] at Ad; cases Ad
 refine A1 fun cb hc1 => ?_; refine vcK ?_
 try simp -implicitDefEqProofs (disch := omega) [go_sem, Ad]
 subst hc1; refine A1 fun cb hc2 => ?_; refine vcK ?_
 try simp -implicitDefEqProofs (disch := omega) [go_sem, Ad]
 subst hc2; refine A1 fun cb hc3 => ?_; refine A1 fun cb hc4 => ?_; refine vcK ?_
 try simp -implicitDefEqProofs (disch := omega) [go_sem, Ad]
 obtain ⟨x5, hx5, h⟩ := A4 h; refine A2.eqA (args' := [.p ka0 0]) (by first | with_reducible rfl | (simp -implicitDefEqProofs (disch := omega) [go_sem, Ad] <;> omega)) (FN a0 ka0 (by first | with_reducible assumption | simp -implicitDefEqProofs (disch := omega) [go_sem, Ad]) (by first | exact hV.of rfl | exact hV.of ((Ext.Ao (Ext.refl hw) ka0)).sn | exact hV.of (Ext.sn (H := H) (by exact A7 (Ext.Ao (Ext.refl hw) ka0))) | exact (VOK.of hV rfl).tok | exact (VOK.of hV ((Ext.Ao (Ext.refl hw) ka0)).sn).tok | exact (VOK.of hV (Ext.sn (H := H) (by exact A7 (Ext.Ao (Ext.refl hw) ka0)))).tok) hx5 ?_ ?_)
 ·intro ex5 qx5; subst qx5; replace h := AO h; have er := Option.some.inj h; subst er
  try simp -implicitDefEqProofs (disch := omega) [go_sem, Ad]
  exact BA (by exact Bt (Ext.Ao (Ext.refl hw) ka0)) ((Dl.refl _).del ka0) (hP _ rfl)
 intro y6 qx5; subst qx5; replace h := Bh h
 try simp -implicitDefEqProofs (disch := omega) [go_sem, Ad]
 subst hc4; obtain ⟨y7, hl7q, hk7⟩ := A4 h; refine AZ (fun tm' H' => ∃ v11 : AE, ∃ v12 : List (List UInt8 × (List UInt8)), .inl (v11, v12) = y7 ∧ Ext (H.del ka0) H' ∧ H.next + 1 ≤ H'.next ∧ tm' 3 = .mp H.next ∧ H'.obj ka0 = some (.cells ([.sl 1 (v11.Bl.fb.map fun x => [.v (.int .u8 x.toNat)])])) ∧ H'.obj H.next = some (.map (mE (fun (x : List UInt8) => .v (str x)) v12))) ?_ fun cb hc7 => ?_
 ·rintro tm7e H7e ⟨v11, v12, rfl, he7e, hl7e, t3_7e, ob0_7e, ob1_7e⟩
  have h : MQ v11 v12 = some r := hk7; unfold MQ at h; simp -implicitDefEqProofs only [go_sem]; subst hc3; refine A1 fun cb hc13 => ?_; refine vcK ?_
  try simp -implicitDefEqProofs (disch := omega) [go_sem, t3_7e, ob0_7e, ob1_7e]
  subst hc13; refine vcK ?_; simp -implicitDefEqProofs only [go_sem]; have er := Option.some.inj h; subst er
  try simp -implicitDefEqProofs (disch := omega) [go_sem, t3_7e, ob0_7e, ob1_7e]
  refine Mw (r := .mp H.next) (r' := .mp H.next) rfl (MD hw [(ka0, .cells ([.sl 1 (v11.Bl.fb.map fun x => [.v (.int .u8 x.toNat)])]))] (by simp only [Cg, CB]; exact A7 he7e) (by intro p hp; simp only [List.mem_cons, List.not_mem_nil, or_false] at hp; (try rcases hp with hp); all_goals (subst hp; refine ⟨by omega, by first | with_reducible assumption | rfl | simp -implicitDefEqProofs (disch := omega) [go_sem, t3_7e, ob0_7e, ob1_7e], by first | exact nbA | exact BY | exact BN⟩)) (ks := [H.next]) (os := [.map (mE (fun (x : List UInt8) => .v (str x)) v12)]) (.cons (o := .map (mE (fun (x : List UInt8) => .v (str x)) v12)) (by first | omega | (simp [go_sem]; done) | (simp [go_sem]; omega)) (by first | omega | (simp [go_sem]; done) | (simp [go_sem]; omega)) (by simp -implicitDefEqProofs (disch := omega) [go_sem, t3_7e, ob0_7e, ob1_7e]) (.same _ (by first | exact nbA | exact BY | exact BN)) .nil) (by simp)) (.mpE (k := H.next) (by simp [Co]) (by simp [go_sem, GS, F2])) (hK _ rfl)
 ·refine Ag ?_; refine AQ (fun (s : (List UInt8) × AE × (List (List UInt8 × (List UInt8)))) tm' H' => Ext (H.del ka0) H' ∧ H.next + 1 ≤ H'.next ∧ tm' 0 = .p ka0 0 ∧ tm' 3 = .mp H.next ∧ tm' 4 = .v (str s.1) ∧ H'.obj ka0 = some (.cells ([.sl 1 (s.2.1.Bl.fb.map fun x => [.v (.int .u8 x.toNat)])])) ∧ H'.obj H.next = some (.map (mE (fun (x : List UInt8) => .v (str x)) s.2.2))) hl7q ?_ ?_
  ·refine .same ⟨by exact A7 (Ext.Ao (Ext.refl hw) ka0), by first | with_reducible rfl | with_reducible assumption | omega | (simp -implicitDefEqProofs (disch := omega) [go_sem, Ad] <;> omega), ?_, ?_, ?_, ?_, ?_⟩ <;> first | with_reducible rfl | with_reducible assumption | (simp -implicitDefEqProofs (disch := omega) [go_sem, Ad] <;> omega)
  ·rintro I7 hI7 ⟨v8, v9, v10⟩ x7 tm7 H7 ⟨he7, hl7, BO, BP, BQ, Bc, Be⟩ h hret7
   replace h : EN v8 v9 v10 = some x7 := h; unfold EN at h; refine A1 fun cb hc14 => ?_; refine A1 fun cb hc15 => ?_; refine vcK ?_
   try simp -implicitDefEqProofs (disch := omega) [go_sem, BO, BP, BQ, Bc, Be]
   subst hc15; refine Ac h (by first | with_reducible rfl | (simp -implicitDefEqProofs (disch := omega) [go_sem, BO, BP, BQ, Bc, Be] <;> omega)) rfl ?_ ?_
   ·intro c16 h
    try simp (disch := omega) at c16
    refine vcK ?_; simp -implicitDefEqProofs only [go_sem]; subst hc14; refine A1 fun cb hc17 => ?_; refine Ag ?_; refine A1 fun cb hc18 => ?_; refine vcK ?_
    try simp -implicitDefEqProofs (disch := omega) [go_sem, BO, BP, BQ, Bc, Be]
    obtain ⟨x19, hx19, h⟩ := A4 h; refine A2.eqA (args' := [.v (str v8), .v (str ([58]))]) (by first | with_reducible rfl | (simp -implicitDefEqProofs (disch := omega) [go_sem, BO, BP, BQ, Bc, Be] <;> omega)) (TB v8 ([58]) (by first | exact hV.of rfl | exact hV.of (he7).sn | exact hV.of (Ext.sn (H := H) (by exact A7 he7)) | exact (VOK.of hV rfl).tok | exact (VOK.of hV (he7).sn).tok | exact (VOK.of hV (Ext.sn (H := H) (by exact A7 he7))).tok) hx19 ?_)
    try simp -implicitDefEqProofs (disch := omega) [go_sem, BO, BP, BQ, Bc, Be]
    subst hc18; refine A1 fun cb hc20 => ?_; refine vcK ?_
    try simp -implicitDefEqProofs (disch := omega) [go_sem, BO, BP, BQ, Bc, Be]
    obtain ⟨x21, hx21, h⟩ := A4 h; refine A2.eqA (args' := [.v (str x19.2.1), .v (str ([32, 9]))]) (by first | with_reducible rfl | (simp -implicitDefEqProofs (disch := omega) [go_sem, BO, BP, BQ, Bc, Be] <;> omega)) (MJ x19.2.1 ([32, 9]) hx21 ?_)
    try simp -implicitDefEqProofs (disch := omega) [go_sem, BO, BP, BQ, Bc, Be]
    subst hc20; refine A1 fun cb hc22 => ?_; refine vcK ?_
    try simp -implicitDefEqProofs (disch := omega) [go_sem, BO, BP, BQ, Bc, Be]
    obtain ⟨x23, hx23, h⟩ := A4 h; refine A2.eqA (args' := [.v (str x19.1)]) (by first | with_reducible rfl | (simp -implicitDefEqProofs (disch := omega) [go_sem, BO, BP, BQ, Bc, Be] <;> omega)) (FL x19.1 hx23 ?_); have hmL103 := @OU _ (fun (x : List UInt8) => .v (str x))
    try dsimp only at hmL103
    have hmT103 := fun o => S7 (fun (x : List UInt8) => .v (str x)) ([] : List UInt8) (z := .v (str ([] : List UInt8))) (o := o) (by first | rfl | simp [go_sem])
    try dsimp only at hmT103
    try simp -implicitDefEqProofs (disch := omega) [go_sem, BO, BP, BQ, Bc, Be, hmL103, hmT103]
    subst hc22; refine A1 fun cb hc24 => ?_; refine vcK ?_
    try simp -implicitDefEqProofs (disch := omega) [go_sem, BO, BP, BQ, Bc, Be, hmL103, hmT103]
    refine A5 h (by first | with_reducible rfl | (simp -implicitDefEqProofs (disch := omega) [go_sem, BO, BP, BQ, Bc, Be, hmL103, hmT103] <;> omega)) ?_ ?_
    ·intro c34 h
     try simp (disch := omega) at c34
     try simp -implicitDefEqProofs (disch := omega) [go_sem, BO, BP, BQ, Bc, Be, hmL103, hmT103]
     obtain ⟨x25, hx25, h⟩ := A4 h; refine A2.eqA (args' := [.v (str x19.1)]) (by first | with_reducible rfl | (simp -implicitDefEqProofs (disch := omega) [go_sem, BO, BP, BQ, Bc, Be, hmL103, hmT103] <;> omega)) (Pq x19.1 hx25 ?_)
     try simp -implicitDefEqProofs (disch := omega) [go_sem, BO, BP, BQ, Bc, Be, hmL103, hmT103]
     refine A5 h (by first | with_reducible rfl | (simp -implicitDefEqProofs (disch := omega) [go_sem, BO, BP, BQ, Bc, Be, hmL103, hmT103] <;> omega)) ?_ ?_
     ·intro c33 h
      try simp (disch := omega) at c33
      try simp -implicitDefEqProofs (disch := omega) [go_sem, BO, BP, BQ, Bc, Be, hmL103, hmT103]
      obtain ⟨x26, hx26, h⟩ := A4 h; refine A2.eqA (args' := [.v (str x21)]) (by first | with_reducible rfl | (simp -implicitDefEqProofs (disch := omega) [go_sem, BO, BP, BQ, Bc, Be, hmL103, hmT103] <;> omega)) (Pv x21 hx26 ?_)
      try simp -implicitDefEqProofs (disch := omega) [go_sem, BO, BP, BQ, Bc, Be, hmL103, hmT103]
      refine A5 h (by first | with_reducible rfl | (simp -implicitDefEqProofs (disch := omega) [go_sem, BO, BP, BQ, Bc, Be, hmL103, hmT103] <;> omega)) ?_ ?_
      ·intro c32 h
       try simp (disch := omega) at c32
       try simp -implicitDefEqProofs (disch := omega) [go_sem, BO, BP, BQ, Bc, Be, hmL103, hmT103]
       refine A2.eqA (args' := [.v (.bool (!((BU v10 x23).isSome)))]) (by first | with_reducible rfl | (simp -implicitDefEqProofs (disch := omega) [go_sem, BO, BP, BQ, Bc, Be, hmL103, hmT103] <;> omega)) ?_; by_cases m27 : ¬ (¬ ((BU v10 x23).isSome = true))
       ·rw [if_neg m27] at h; refine Bn  (by first | simpa using m27 | exact Bool.eq_false_iff.2 (fun q => m27 (by simpa using q))) ?_
        try simp (disch := omega) at m27
        have e7 := Option.some.inj h; subst e7; have e7 := hret7 _ rfl; subst e7; replace h : some ((.error ())) = some r := hk7; have er := Option.some.inj h; subst er
        try simp -implicitDefEqProofs (disch := omega) [go_sem, BO, BP, BQ, Bc, Be, hmL103, hmT103]
        exact BA (by exact Bt he7) ((Dl.refl _).del ka0) (hP _ rfl)
       have m27 := Classical.not_not.1 m27; rw [if_pos m27] at h; refine CE  (by simpa using m27) ?_
       try simp (disch := omega) at m27
       try simp -implicitDefEqProofs (disch := omega) [go_sem, BO, BP, BQ, Bc, Be, hmL103, hmT103]
       subst hc24; refine vcK ?_
       try simp -implicitDefEqProofs (disch := omega) [go_sem, BO, BP, BQ, Bc, Be, hmL103, hmT103]
       obtain ⟨x28, hx28, h⟩ := A4 h; refine A2.eqA (args' := [.v (str x19.1)]) (by first | with_reducible rfl | (simp -implicitDefEqProofs (disch := omega) [go_sem, BO, BP, BQ, Bc, Be, hmL103, hmT103] <;> omega)) (FL x19.1 hx28 ?_); have hmS103 := fun m k v => QH (fun (x : List UInt8) => .v (str x)) m k v
       try dsimp only at hmS103
       have hmi29 := hmS103 v10 x28 x21
       try simp -implicitDefEqProofs at hmi29
       try simp -implicitDefEqProofs (disch := omega) [go_sem, BO, BP, BQ, Bc, Be, hmL103, hmT103, hmS103, hmi29]
       subst hc17; refine vcK ?_
       try simp -implicitDefEqProofs (disch := omega) [go_sem, BO, BP, BQ, Bc, Be, hmL103, hmT103, hmS103, hmi29]
       obtain ⟨x30, hx30, h⟩ := A4 h; refine A2.eqA (args' := [.p ka0 0]) (by first | with_reducible rfl | (simp -implicitDefEqProofs (disch := omega) [go_sem, BO, BP, BQ, Bc, Be, hmL103, hmT103, hmS103, hmi29] <;> omega)) (FN v9 ka0 (by first | with_reducible assumption | simp -implicitDefEqProofs (disch := omega) [go_sem, BO, BP, BQ, Bc, Be, hmL103, hmT103, hmS103, hmi29]) (by first | exact hV.of rfl | exact hV.of (he7).sn | exact hV.of (Ext.sn (H := H) (by exact A7 he7)) | exact (VOK.of hV rfl).tok | exact (VOK.of hV (he7).sn).tok | exact (VOK.of hV (Ext.sn (H := H) (by exact A7 he7))).tok) hx30 ?_ ?_)
       ·intro ex30 qx30; subst qx30; replace h := AO h; have e7 := Option.some.inj h; subst e7; have e7 := hret7 _ rfl; subst e7; replace h : some (.error ex30) = some r := hk7; have er := Option.some.inj h; subst er
        try simp -implicitDefEqProofs (disch := omega) [go_sem, BO, BP, BQ, Bc, Be, hmL103, hmT103, hmS103, hmi29]
        exact BA (by exact Bt he7) ((Dl.refl _).del ka0) (hP _ rfl)
       intro y31 qx30; subst qx30; replace h := Bh h
       try simp -implicitDefEqProofs (disch := omega) [go_sem, BO, BP, BQ, Bc, Be, hmL103, hmT103, hmS103, hmi29]
       have e7 := Option.some.inj h; subst e7; refine Ap hI7 (y31.1, y31.2, Mi v10 x28 x21) ?_; refine .same ⟨by exact A7 he7, by first | with_reducible rfl | with_reducible assumption | omega | (simp -implicitDefEqProofs (disch := omega) [go_sem, BO, BP, BQ, Bc, Be, hmL103, hmT103, hmS103, hmi29] <;> omega), ?_, ?_, ?_, ?_, ?_⟩ <;> first | with_reducible rfl | with_reducible assumption | (simp -implicitDefEqProofs (disch := omega) [go_sem, BO, BP, BQ, Bc, Be, hmL103, hmT103, hmS103, hmi29] <;> omega)
      ·intro c32 h
       try simp (disch := omega) at c32
       try simp -implicitDefEqProofs (disch := omega) [go_sem, BO, BP, BQ, Bc, Be, hmL103, hmT103]
       refine A2.eqA (args' := [.v (.bool false)]) (by first | with_reducible rfl | (simp -implicitDefEqProofs (disch := omega) [go_sem, BO, BP, BQ, Bc, Be, hmL103, hmT103] <;> omega)) (Bn  rfl ?_); have e7 := Option.some.inj h; subst e7; have e7 := hret7 _ rfl; subst e7; replace h : some ((.error ())) = some r := hk7; have er := Option.some.inj h; subst er
       try simp -implicitDefEqProofs (disch := omega) [go_sem, BO, BP, BQ, Bc, Be, hmL103, hmT103]
       exact BA (by exact Bt he7) ((Dl.refl _).del ka0) (hP _ rfl)
     ·intro c33 h
      try simp (disch := omega) at c33
      try simp -implicitDefEqProofs (disch := omega) [go_sem, BO, BP, BQ, Bc, Be, hmL103, hmT103]
      refine A2.eqA (args' := [.v (.bool false)]) (by first | with_reducible rfl | (simp -implicitDefEqProofs (disch := omega) [go_sem, BO, BP, BQ, Bc, Be, hmL103, hmT103] <;> omega)) (Bn  rfl ?_); have e7 := Option.some.inj h; subst e7; have e7 := hret7 _ rfl; subst e7; replace h : some ((.error ())) = some r := hk7; have er := Option.some.inj h; subst er
      try simp -implicitDefEqProofs (disch := omega) [go_sem, BO, BP, BQ, Bc, Be, hmL103, hmT103]
      exact BA (by exact Bt he7) ((Dl.refl _).del ka0) (hP _ rfl)
    ·intro c34 h
     try simp (disch := omega) at c34
     try simp -implicitDefEqProofs (disch := omega) [go_sem, BO, BP, BQ, Bc, Be, hmL103, hmT103]
     refine A2.eqA (args' := [.v (.bool false)]) (by first | with_reducible rfl | (simp -implicitDefEqProofs (disch := omega) [go_sem, BO, BP, BQ, Bc, Be, hmL103, hmT103] <;> omega)) (Bn  rfl ?_); have e7 := Option.some.inj h; subst e7; have e7 := hret7 _ rfl; subst e7; replace h : some ((.error ())) = some r := hk7; have er := Option.some.inj h; subst er
     try simp -implicitDefEqProofs (disch := omega) [go_sem, BO, BP, BQ, Bc, Be, hmL103, hmT103]
     exact BA (by exact Bt he7) ((Dl.refl _).del ka0) (hP _ rfl)
   ·intro c16 h
    try simp (disch := omega) at c16
    refine vcK ?_; simp -implicitDefEqProofs only [go_sem]; have e7 := Option.some.inj h; subst e7; have hy7 := hret7 _ rfl; refine hc7 _ _ ?_; refine .same ⟨v9, v10, hy7, by exact A7 he7, by first | with_reducible rfl | with_reducible assumption | omega | (simp -implicitDefEqProofs (disch := omega) [go_sem, BO, BP, BQ, Bc, Be] <;> omega), ?_, ?_, ?_⟩ <;> first | with_reducible rfl | with_reducible assumption | (simp -implicitDefEqProofs (disch := omega) [go_sem, BO, BP, BQ, Bc, Be] <;> omega)
noncomputable def F91 (a0 : AE) (a1 : Int) : Option (Except Unit ((List UInt8) × AE)) :=
 if a1 ≤ (a0.Bl.fb.length : Int) then (gd (0 ≤ a1) (gd (a1 ≤ a0.Bl.fb.length) ((TE (a0.Bl.fb.take a1.toNat)).bind fun (x7 : (List UInt8)) => some ((.ok ((x7, (⟨(⟨a0.Bl.fb.drop a1.toNat⟩ : S98)⟩ : AE)))))))) else (some (.error ()))
set_option maxHeartbeats 8000000 in
set_option pp.deepTerms false in
set_option maxRecDepth 60000 in
theorem MR {H : A0} {K : An → A0 → Prop} (a0 : AE) (a1 : Int) (ka0 : Nat) (Ad : H.obj ka0 = some (.cells ([.sl 1 (a0.Bl.fb.map fun x => [.v (.int .u8 x.toNat)])]))) {r : Except Unit ((List UInt8) × AE)} (h : F91 a0 a1 = some r) (hP : ∀ e, r = .error e → K (.pan (Ci e)) (H.del ka0)) (hK : ∀ v : (List UInt8) × AE, r = .ok v → K (.ret (.sl 1 (v.1.map fun x => [.v (.int .u8 x.toNat)]))) (Dy H [(ka0, .cells ([.sl 1 (v.2.Bl.fb.map fun x => [.v (.int .u8 x.toNat)])]))])) : A2 prog 91 [.p ka0 0, .v (.int .i64 a1)] H K := by
 refine Aa (N := 35) func91 (by kernel_rfl) rfl (by kernel_rfl) (by kernel_rfl) fun cb hcb hw hbd hnb => ?_; clear hbd hnb; subst hcb; unfold F91 at h; have O3 : ka0 < H.next := Nat.lt_of_not_le fun q => by rw [hw _ q] at Ad; cases Ad
 refine A1 fun cb hc1 => ?_; refine vcK ?_
 try simp -implicitDefEqProofs (disch := omega) [go_sem, Ad]
 subst hc1; refine A1 fun cb hc2 => ?_; refine vcK ?_
 try simp -implicitDefEqProofs (disch := omega) [go_sem, Ad]
 refine A2.eqA (args' := [.v (.bool (decide (a1 ≤ (a0.Bl.fb.length : Int))))]) (by first | with_reducible rfl | (simp -implicitDefEqProofs (disch := omega) [go_sem, Ad] <;> omega)) ?_; by_cases m3 : ¬ (a1 ≤ (a0.Bl.fb.length : Int))
 ·rw [if_neg m3] at h; refine Bn  (by first | simpa using m3 | exact Bool.eq_false_iff.2 (fun q => m3 (by simpa using q))) ?_
  try simp (disch := omega) at m3
  have er := Option.some.inj h; subst er
  try simp -implicitDefEqProofs (disch := omega) [go_sem, Ad]
  exact BA (by exact Bt (Ext.Ao (Ext.refl hw) ka0)) ((Dl.refl _).del ka0) (hP _ rfl)
 have m3 := Classical.not_not.1 m3; rw [if_pos m3] at h; refine CE  (by simpa using m3) ?_
 try simp (disch := omega) at m3
 try simp -implicitDefEqProofs (disch := omega) [go_sem, Ad]
 subst hc2; refine A1 fun cb hc4 => ?_; refine vcK ?_; obtain ⟨g5, h⟩ := A8.1 h
 try simp (disch := omega) at g5
 obtain ⟨g6, h⟩ := A8.1 h
 try simp (disch := omega) at g6
 try simp -implicitDefEqProofs (disch := omega) [go_sem, Ad]
 obtain ⟨x7, hx7, h⟩ := A4 h; refine A2.eqA (args' := [.sl 1 ((a0.Bl.fb.take a1.toNat).map fun x => [.v (.int .u8 x.toNat)])]) (by first | with_reducible rfl | (simp -implicitDefEqProofs (disch := omega) [go_sem, Ad] <;> omega)) (R7 (a0.Bl.fb.take a1.toNat) hx7 ?_)
 try simp -implicitDefEqProofs (disch := omega) [go_sem, Ad]
 subst hc4; refine A1 fun cb hc8 => ?_; refine vcK ?_
 try simp -implicitDefEqProofs (disch := omega) [go_sem, Ad]
 subst hc8; refine A1 fun cb hc9 => ?_; refine vcK ?_
 try simp -implicitDefEqProofs (disch := omega) [go_sem, Ad]
 subst hc9; refine vcK ?_; simp -implicitDefEqProofs only [go_sem]; have er := Option.some.inj h; subst er
 try simp -implicitDefEqProofs (disch := omega) [go_sem, Ad]
 refine AN (r' := .sl 1 (x7.map fun x => [.v (.int .u8 x.toNat)])) (io1 ka0 (.cells ([.sl 1 ((a0.Bl.fb.drop a1.toNat).map fun x => [.v (.int .u8 x.toNat)])])) (by exact A7 (Ext.Ao (Ext.refl hw) ka0)) (by omega) (by first | with_reducible assumption | rfl | simp -implicitDefEqProofs (disch := omega) [go_sem, Ad]) (by first | exact nbA | exact BY | exact BN)) (by first | with_reducible rfl | (simp -implicitDefEqProofs (disch := omega) [go_sem, Ad] <;> omega)) (.same (by first | exact nbA | exact BY | exact BN)) (hK _ rfl)
end Go.Idl
namespace Go.Idl
open Go Go.Proofs.Tryz
noncomputable def EO (v4 : List UInt8) (v6 : AE) : Option (((List UInt8) × AE) ⊕ (Except Unit ((List UInt8) × AE))) :=
 (F64 v6).bind fun (x8 : Except Unit ((List UInt8) × AE)) => orP x8 (fun (ex8 : Unit) => some (.inr (.error ex8))) (fun (y9 : (List UInt8) × AE) => (TH y9.1 16 32).bind fun (x11 : Int × Bool) => if ¬ x11.2 = true then (if 1 ≤ (y9.1.length : Int) then (if (y9.1.length : Int) ≤ 5 then ((F80 y9.1 ([48, 49, 50, 51, 52, 53, 54, 55, 56, 57, 97, 98, 99, 100, 101, 102, 65, 66, 67, 68, 69, 70])).bind fun (x13 : (List UInt8)) => if x13 = [] then (if x11.1 = 0 then (if y9.1 = ([48]) then ((F64 y9.2).bind fun (x19 : Except Unit ((List UInt8) × AE)) => orP x19 (fun (ex19 : Unit) => some (.inr (.error ex19))) (fun (y20 : (List UInt8) × AE) => if y20.1 = [] then (some (.inr ((.ok (v4, y20.2))))) else (some (.inr (.error ()))))) else (some (.inr (.error ())))) else ((F91 y9.2 (IntKind.i64.wrap x11.1)).bind fun (x25 : Except Unit ((List UInt8) × AE)) => orP x25 (fun (ex25 : Unit) => some (.inr (.error ex25))) (fun (y26 : (List UInt8) × AE) => gd ((v4.length + y26.1.length) * 1 ≤ 140737488355328) ((F64 y26.2).bind fun (x28 : Except Unit ((List UInt8) × AE)) => orP x28 (fun (ex28 : Unit) => some (.inr (.error ex28))) (fun (y29 : (List UInt8) × AE) => if y29.1 = [] then (some (.inl (v4 ++ y26.1, y29.2))) else (some (.inr (.error ())))))))) else (some (.inr (.error ())))) else (some (.inr (.error ())))) else (some (.inr (.error ())))) else (some (.inr (.error ()))))
noncomputable def F90 (a0 : AE) : Option (Except Unit ((List UInt8) × AE)) :=
 (AY (fun (s : (List UInt8) × AE) => EO s.1 s.2) ([], a0)).bind fun (q : Except Unit ((List UInt8) × AE)) => some q
set_option maxHeartbeats 8000000 in
set_option pp.deepTerms false in
set_option maxRecDepth 60000 in
theorem PC {H : A0} {K : An → A0 → Prop} (a0 : AE) (ka0 : Nat) (Ad : H.obj ka0 = some (.cells ([.sl 1 (a0.Bl.fb.map fun x => [.v (.int .u8 x.toNat)])]))) (hV : VOK prog H) {r : Except Unit ((List UInt8) × AE)} (h : F90 a0 = some r) (hP : ∀ e, r = .error e → K (.pan (Ci e)) (H.del ka0)) (hK : ∀ v : (List UInt8) × AE, r = .ok v → K (.ret (.sl 1 (v.1.map fun x => [.v (.int .u8 x.toNat)]))) (Dy H [(ka0, .cells ([.sl 1 (v.2.Bl.fb.map fun x => [.v (.int .u8 x.toNat)])]))])) : A2 prog 90 [.p ka0 0] H K := by
 refine Aa (N := 53) func90 (by kernel_rfl) rfl (by kernel_rfl) (by kernel_rfl) fun cb hcb hw hbd hnb => ?_; clear hbd hnb; subst hcb; unfold F90 at h; have O3 : ka0 < H.next := Nat.lt_of_not_le fun q => by rw [hw _ q] at Ad; cases Ad
 refine A1 fun cb hc1 => ?_; refine vcK ?_
 try simp -implicitDefEqProofs (disch := omega) [go_sem, Ad]
 subst hc1; refine A1 fun cb hc2 => ?_; refine vcK ?_
 try simp -implicitDefEqProofs (disch := omega) [go_sem, Ad]
 subst hc2; obtain ⟨y3, hl3q, hk3⟩ := A4 h; refine Ag ?_; refine AQ (fun (s : (List UInt8) × AE) tm' H' => ∃ n5 : Nat, Ext (H.del ka0) H' ∧ H.next ≤ H'.next ∧ H.next ≤ n5 ∧ n5 < H'.next ∧ ¬ ka0 = n5 ∧ tm' 0 = .p ka0 0 ∧ tm' 3 = .os n5 s.1.length ∧ H'.obj ka0 = some (.cells ([.sl 1 (s.2.Bl.fb.map fun x => [.v (.int .u8 x.toNat)])])) ∧ H'.obj n5 = some (.row 1 (s.1.map fun x => [.v (.int .u8 x.toNat)]))) hl3q ?_ ?_
 ·refine UpI.gh (Gh.Kj (d := 3) (sz := 1) (by omega) (by (simp -implicitDefEqProofs (disch := omega) [go_sem, Ad] <;> omega))) ?_; refine .same ⟨H.next, by exact A7 (Ext.Ao (Ext.refl hw) ka0), by first | with_reducible rfl | with_reducible assumption | omega | (simp -implicitDefEqProofs (disch := omega) [go_sem, Ad] <;> omega), by first | with_reducible rfl | with_reducible assumption | omega | (simp -implicitDefEqProofs (disch := omega) [go_sem, Ad] <;> omega), by first | with_reducible rfl | with_reducible assumption | omega | (simp -implicitDefEqProofs (disch := omega) [go_sem, Ad] <;> omega), by first | with_reducible rfl | with_reducible assumption | omega | (simp -implicitDefEqProofs (disch := omega) [go_sem, Ad] <;> omega), ?_, ?_, ?_, ?_⟩ <;> first | with_reducible rfl | with_reducible assumption | (simp -implicitDefEqProofs (disch := omega) [go_sem, Ad] <;> omega)
 ·rintro I3 hI3 ⟨v4, v6⟩ x3 tm3 H3 ⟨n5, he3, hl3, Yz, YA, hq34, AT, AU, As, Au⟩ h hret3
  replace h : EO v4 v6 = some x3 := h; unfold EO at h; refine Ag ?_; refine A1 fun cb hc7 => ?_; refine vcK ?_
  try simp -implicitDefEqProofs (disch := omega) [go_sem, AT, AU, As, Au]
  obtain ⟨x8, hx8, h⟩ := A4 h; refine A2.eqA (args' := [.p ka0 0]) (by first | with_reducible rfl | (simp -implicitDefEqProofs (disch := omega) [go_sem, AT, AU, As, Au] <;> omega)) (FN v6 ka0 (by first | with_reducible assumption | simp -implicitDefEqProofs (disch := omega) [go_sem, AT, AU, As, Au]) (by first | exact hV.of rfl | exact hV.of (he3).sn | exact hV.of (Ext.sn (H := H) (by exact A7 he3)) | exact (VOK.of hV rfl).tok | exact (VOK.of hV (he3).sn).tok | exact (VOK.of hV (Ext.sn (H := H) (by exact A7 he3))).tok) hx8 ?_ ?_)
  ·intro ex8 qx8; subst qx8; replace h := AO h; have e3 := Option.some.inj h; subst e3; have e3 := hret3 _ rfl; subst e3; replace h : some (.error ex8) = some r := hk3; have er := Option.some.inj h; subst er
   try simp -implicitDefEqProofs (disch := omega) [go_sem, AT, AU, As, Au]
   exact BA (by exact Bt he3) ((Dl.refl _).del ka0) (hP _ rfl)
  intro y9 qx8; subst qx8; replace h := Bh h
  try simp -implicitDefEqProofs (disch := omega) [go_sem, AT, AU, As, Au]
  subst hc7; refine A1 fun cb hc10 => ?_; refine vcK ?_
  try simp -implicitDefEqProofs (disch := omega) [go_sem, AT, AU, As, Au]
  obtain ⟨x11, hx11, h⟩ := A4 h; refine A2.eqA (args' := [.v (str y9.1), .v (.int .i64 16), .v (.int .i64 32)]) (by first | with_reducible rfl | (simp -implicitDefEqProofs (disch := omega) [go_sem, AT, AU, As, Au] <;> omega)) (Re y9.1 16 32 (by first | exact hV.of rfl | exact hV.of (he3).sn | exact hV.of (Ext.sn (H := H) (by exact A7 he3)) | exact (VOK.of hV rfl).tok | exact (VOK.of hV (he3).sn).tok | exact (VOK.of hV (Ext.sn (H := H) (by exact A7 he3))).tok) hx11 ?_)
  try simp -implicitDefEqProofs (disch := omega) [go_sem, AT, AU, As, Au]
  subst hc10; refine A1 fun cb hc12 => ?_; refine vcK ?_
  try simp -implicitDefEqProofs (disch := omega) [go_sem, AT, AU, As, Au]
  refine A5 h (by first | with_reducible rfl | (simp -implicitDefEqProofs (disch := omega) [go_sem, AT, AU, As, Au] <;> omega)) ?_ ?_
  ·intro c33 h
   try simp (disch := omega) at c33
   try simp -implicitDefEqProofs (disch := omega) [go_sem, AT, AU, As, Au]
   refine A5 h (by first | with_reducible rfl | (simp -implicitDefEqProofs (disch := omega) [go_sem, AT, AU, As, Au] <;> omega)) ?_ ?_
   ·intro c32 h
    try simp (disch := omega) at c32
    try simp -implicitDefEqProofs (disch := omega) [go_sem, AT, AU, As, Au]
    refine A5 h (by first | with_reducible rfl | (simp -implicitDefEqProofs (disch := omega) [go_sem, AT, AU, As, Au] <;> omega)) ?_ ?_
    ·intro c31 h
     try simp (disch := omega) at c31
     try simp -implicitDefEqProofs (disch := omega) [go_sem, AT, AU, As, Au]
     obtain ⟨x13, hx13, h⟩ := A4 h; refine A2.eqA (args' := [.v (str y9.1), .v (str ([48, 49, 50, 51, 52, 53, 54, 55, 56, 57, 97, 98, 99, 100, 101, 102, 65, 66, 67, 68, 69, 70]))]) (by first | with_reducible rfl | (simp -implicitDefEqProofs (disch := omega) [go_sem, AT, AU, As, Au] <;> omega)) (MJ y9.1 ([48, 49, 50, 51, 52, 53, 54, 55, 56, 57, 97, 98, 99, 100, 101, 102, 65, 66, 67, 68, 69, 70]) hx13 ?_)
     try simp -implicitDefEqProofs (disch := omega) [go_sem, AT, AU, As, Au]
     refine A2.eqA (args' := [.v (.bool (decide (x13 = [])))]) (by first | with_reducible rfl | (simp -implicitDefEqProofs (disch := omega) [go_sem, AT, AU, As, Au] <;> omega)) ?_; by_cases m14 : ¬ (x13 = [])
     ·rw [if_neg m14] at h; refine Bn  (by first | simpa using m14 | exact Bool.eq_false_iff.2 (fun q => m14 (by simpa using q))) ?_
      try simp (disch := omega) at m14
      have e3 := Option.some.inj h; subst e3; have e3 := hret3 _ rfl; subst e3; replace h : some ((.error ())) = some r := hk3; have er := Option.some.inj h; subst er
      try simp -implicitDefEqProofs (disch := omega) [go_sem, AT, AU, As, Au]
      exact BA (by exact Bt he3) ((Dl.refl _).del ka0) (hP _ rfl)
     have m14 := Classical.not_not.1 m14; rw [if_pos m14] at h; refine CE  (by simpa using m14) ?_
     try simp (disch := omega) at m14
     try simp -implicitDefEqProofs (disch := omega) [go_sem, AT, AU, As, Au]
     subst hc12; refine A1 fun cb hc15 => ?_; refine A1 fun cb hc16 => ?_; refine vcK ?_
     try simp -implicitDefEqProofs (disch := omega) [go_sem, AT, AU, As, Au]
     subst hc16; refine Ac h (by first | with_reducible rfl | (simp -implicitDefEqProofs (disch := omega) [go_sem, AT, AU, As, Au] <;> omega)) rfl ?_ ?_
     ·intro c17 h
      try simp (disch := omega) at c17
      refine A1 fun cb hc18 => ?_; refine vcK ?_
      try simp -implicitDefEqProofs (disch := omega) [go_sem, AT, AU, As, Au]
      refine A5 h (by first | with_reducible rfl | (simp -implicitDefEqProofs (disch := omega) [go_sem, AT, AU, As, Au] <;> omega)) ?_ ?_
      ·intro c23 h
       try simp (disch := omega) at c23
       try simp -implicitDefEqProofs (disch := omega) [go_sem, AT, AU, As, Au]
       obtain ⟨x19, hx19, h⟩ := A4 h; refine A2.eqA (args' := [.p ka0 0]) (by first | with_reducible rfl | (simp -implicitDefEqProofs (disch := omega) [go_sem, AT, AU, As, Au] <;> omega)) (FN y9.2 ka0 (by first | with_reducible assumption | simp -implicitDefEqProofs (disch := omega) [go_sem, AT, AU, As, Au]) (by first | exact hV.of rfl | exact hV.of (he3).sn | exact hV.of (Ext.sn (H := H) (by exact A7 he3)) | exact (VOK.of hV rfl).tok | exact (VOK.of hV (he3).sn).tok | exact (VOK.of hV (Ext.sn (H := H) (by exact A7 he3))).tok) hx19 ?_ ?_)
       ·intro ex19 qx19; subst qx19; replace h := AO h; have e3 := Option.some.inj h; subst e3; have e3 := hret3 _ rfl; subst e3; replace h : some (.error ex19) = some r := hk3; have er := Option.some.inj h; subst er
        try simp -implicitDefEqProofs (disch := omega) [go_sem, AT, AU, As, Au]
        exact BA (by exact Bt he3) ((Dl.refl _).del ka0) (hP _ rfl)
       intro y20 qx19; subst qx19; replace h := Bh h
       try simp -implicitDefEqProofs (disch := omega) [go_sem, AT, AU, As, Au]
       refine A2.eqA (args' := [.v (.bool (decide (y20.1 = [])))]) (by first | with_reducible rfl | (simp -implicitDefEqProofs (disch := omega) [go_sem, AT, AU, As, Au] <;> omega)) ?_; by_cases m21 : ¬ (y20.1 = [])
       ·rw [if_neg m21] at h; refine Bn  (by first | simpa using m21 | exact Bool.eq_false_iff.2 (fun q => m21 (by simpa using q))) ?_
        try simp (disch := omega) at m21
        have e3 := Option.some.inj h; subst e3; have e3 := hret3 _ rfl; subst e3; replace h : some ((.error ())) = some r := hk3; have er := Option.some.inj h; subst er
        try simp -implicitDefEqProofs (disch := omega) [go_sem, AT, AU, As, Au]
        exact BA (by exact Bt he3) ((Dl.refl _).del ka0) (hP _ rfl)
       have m21 := Classical.not_not.1 m21; rw [if_pos m21] at h; refine CE  (by simpa using m21) ?_
       try simp (disch := omega) at m21
       try simp -implicitDefEqProofs (disch := omega) [go_sem, AT, AU, As, Au]
       subst hc18; refine A1 fun cb hc22 => ?_; refine vcK ?_
       try simp -implicitDefEqProofs (disch := omega) [go_sem, AT, AU, As, Au]
       subst hc22; refine IWp.gh (Gh.freeze (d := 2) (k := n5) (sz := 1) (es := v4.map fun x => [.v (.int .u8 x.toNat)]) (by (simp -implicitDefEqProofs (disch := omega) [go_sem, AT, AU, As, Au] <;> omega)) (by (simp -implicitDefEqProofs (disch := omega) [go_sem, AT, AU, As, Au] <;> omega))) ?_; refine vcK ?_; simp -implicitDefEqProofs only [go_sem]; have e3 := Option.some.inj h; subst e3; have e3 := hret3 _ rfl; subst e3; replace h : some ((.ok (v4, y20.2))) = some r := hk3; have er := Option.some.inj h; subst er
       try simp -implicitDefEqProofs (disch := omega) [go_sem, AT, AU, As, Au]
       refine AN (r' := .sl 1 (v4.map fun x => [.v (.int .u8 x.toNat)])) (io1 ka0 (.cells ([.sl 1 (y20.2.Bl.fb.map fun x => [.v (.int .u8 x.toNat)])])) (by exact A7 he3) (by omega) (by first | with_reducible assumption | rfl | simp -implicitDefEqProofs (disch := omega) [go_sem, AT, AU, As, Au]) (by first | exact nbA | exact BY | exact BN)) (by first | with_reducible rfl | (simp -implicitDefEqProofs (disch := omega) [go_sem, AT, AU, As, Au] <;> omega)) (.same (by first | exact nbA | exact BY | exact BN)) (hK _ rfl)
      ·intro c23 h
       try simp (disch := omega) at c23
       try simp -implicitDefEqProofs (disch := omega) [go_sem, AT, AU, As, Au]
       refine A2.eqA (args' := [.v (.bool false)]) (by first | with_reducible rfl | (simp -implicitDefEqProofs (disch := omega) [go_sem, AT, AU, As, Au] <;> omega)) (Bn  rfl ?_); have e3 := Option.some.inj h; subst e3; have e3 := hret3 _ rfl; subst e3; replace h : some ((.error ())) = some r := hk3; have er := Option.some.inj h; subst er
       try simp -implicitDefEqProofs (disch := omega) [go_sem, AT, AU, As, Au]
       exact BA (by exact Bt he3) ((Dl.refl _).del ka0) (hP _ rfl)
     ·intro c17 h
      try simp (disch := omega) at c17
      refine vcK ?_; simp -implicitDefEqProofs only [go_sem]; subst hc15; refine A1 fun cb hc24 => ?_; refine vcK ?_
      try simp -implicitDefEqProofs (disch := omega) [go_sem, AT, AU, As, Au]
      obtain ⟨x25, hx25, h⟩ := A4 h; refine A2.eqA (args' := [.p ka0 0, .v (.int .i64 (IntKind.i64.wrap x11.1))]) (by first | with_reducible rfl | (simp -implicitDefEqProofs (disch := omega) [go_sem, AT, AU, As, Au] <;> omega)) (MR y9.2 (IntKind.i64.wrap x11.1) ka0 (by first | with_reducible assumption | simp -implicitDefEqProofs (disch := omega) [go_sem, AT, AU, As, Au]) hx25 ?_ ?_)
      ·intro ex25 qx25; subst qx25; replace h := AO h; have e3 := Option.some.inj h; subst e3; have e3 := hret3 _ rfl; subst e3; replace h : some (.error ex25) = some r := hk3; have er := Option.some.inj h; subst er
       try simp -implicitDefEqProofs (disch := omega) [go_sem, AT, AU, As, Au]
       exact BA (by exact Bt he3) ((Dl.refl _).del ka0) (hP _ rfl)
      intro y26 qx25; subst qx25; replace h := Bh h; obtain ⟨g27, h⟩ := A8.1 h
      try simp (disch := omega) at g27
      try simp -implicitDefEqProofs (disch := omega) [go_sem, AT, AU, As, Au]
      subst hc24; refine vcK ?_
      try simp -implicitDefEqProofs (disch := omega) [go_sem, AT, AU, As, Au]
      obtain ⟨x28, hx28, h⟩ := A4 h; refine A2.eqA (args' := [.p ka0 0]) (by first | with_reducible rfl | (simp -implicitDefEqProofs (disch := omega) [go_sem, AT, AU, As, Au] <;> omega)) (FN y26.2 ka0 (by first | with_reducible assumption | simp -implicitDefEqProofs (disch := omega) [go_sem, AT, AU, As, Au]) (by first | exact hV.of rfl | exact hV.of (he3).sn | exact hV.of (Ext.sn (H := H) (by exact A7 he3)) | exact (VOK.of hV rfl).tok | exact (VOK.of hV (he3).sn).tok | exact (VOK.of hV (Ext.sn (H := H) (by exact A7 he3))).tok) hx28 ?_ ?_)
      ·intro ex28 qx28; subst qx28; replace h := AO h; have e3 := Option.some.inj h; subst e3; have e3 := hret3 _ rfl; subst e3; replace h : some (.error ex28) = some r := hk3; have er := Option.some.inj h; subst er
       try simp -implicitDefEqProofs (disch := omega) [go_sem, AT, AU, As, Au]
       exact BA (by exact Bt he3) ((Dl.refl _).del ka0) (hP _ rfl)
      intro y29 qx28; subst qx28; replace h := Bh h
      try simp -implicitDefEqProofs (disch := omega) [go_sem, AT, AU, As, Au]
      refine A2.eqA (args' := [.v (.bool (decide (y29.1 = [])))]) (by first | with_reducible rfl | (simp -implicitDefEqProofs (disch := omega) [go_sem, AT, AU, As, Au] <;> omega)) ?_; by_cases m30 : ¬ (y29.1 = [])
      ·rw [if_neg m30] at h; refine Bn  (by first | simpa using m30 | exact Bool.eq_false_iff.2 (fun q => m30 (by simpa using q))) ?_
       try simp (disch := omega) at m30
       have e3 := Option.some.inj h; subst e3; have e3 := hret3 _ rfl; subst e3; replace h : some ((.error ())) = some r := hk3; have er := Option.some.inj h; subst er
       try simp -implicitDefEqProofs (disch := omega) [go_sem, AT, AU, As, Au]
       exact BA (by exact Bt he3) ((Dl.refl _).del ka0) (hP _ rfl)
      have m30 := Classical.not_not.1 m30; rw [if_pos m30] at h; refine CE  (by simpa using m30) ?_
      try simp (disch := omega) at m30
      try simp -implicitDefEqProofs (disch := omega) [go_sem, AT, AU, As, Au]
      have e3 := Option.some.inj h; subst e3; refine Ap hI3 (v4 ++ y26.1, y29.2) ?_; refine .same ⟨n5, by exact A7 he3, by first | with_reducible rfl | with_reducible assumption | omega | (simp -implicitDefEqProofs (disch := omega) [go_sem, AT, AU, As, Au] <;> omega), by first | with_reducible rfl | with_reducible assumption | omega | (simp -implicitDefEqProofs (disch := omega) [go_sem, AT, AU, As, Au] <;> omega), by first | with_reducible rfl | with_reducible assumption | omega | (simp -implicitDefEqProofs (disch := omega) [go_sem, AT, AU, As, Au] <;> omega), by first | with_reducible rfl | with_reducible assumption | omega | (simp -implicitDefEqProofs (disch := omega) [go_sem, AT, AU, As, Au] <;> omega), ?_, ?_, ?_, ?_⟩ <;> first | with_reducible rfl | with_reducible assumption | (simp -implicitDefEqProofs (disch := omega) [go_sem, AT, AU, As, Au] <;> omega)
    ·intro c31 h
     try simp (disch := omega) at c31
     try simp -implicitDefEqProofs (disch := omega) [go_sem, AT, AU, As, Au]
     refine A2.eqA (args' := [.v (.bool false)]) (by first | with_reducible rfl | (simp -implicitDefEqProofs (disch := omega) [go_sem, AT, AU, As, Au] <;> omega)) (Bn  rfl ?_); have e3 := Option.some.inj h; subst e3; have e3 := hret3 _ rfl; subst e3; replace h : some ((.error ())) = some r := hk3; have er := Option.some.inj h; subst er
     try simp -implicitDefEqProofs (disch := omega) [go_sem, AT, AU, As, Au]
     exact BA (by exact Bt he3) ((Dl.refl _).del ka0) (hP _ rfl)
   ·intro c32 h
    try simp (disch := omega) at c32
    try simp -implicitDefEqProofs (disch := omega) [go_sem, AT, AU, As, Au]
    refine A2.eqA (args' := [.v (.bool false)]) (by first | with_reducible rfl | (simp -implicitDefEqProofs (disch := omega) [go_sem, AT, AU, As, Au] <;> omega)) (Bn  rfl ?_); have e3 := Option.some.inj h; subst e3; have e3 := hret3 _ rfl; subst e3; replace h : some ((.error ())) = some r := hk3; have er := Option.some.inj h; subst er
    try simp -implicitDefEqProofs (disch := omega) [go_sem, AT, AU, As, Au]
    exact BA (by exact Bt he3) ((Dl.refl _).del ka0) (hP _ rfl)
  ·intro c33 h
   try simp (disch := omega) at c33
   try simp -implicitDefEqProofs (disch := omega) [go_sem, AT, AU, As, Au]
   refine A2.eqA (args' := [.v (.bool false)]) (by first | with_reducible rfl | (simp -implicitDefEqProofs (disch := omega) [go_sem, AT, AU, As, Au] <;> omega)) (Bn  rfl ?_); have e3 := Option.some.inj h; subst e3; have e3 := hret3 _ rfl; subst e3; replace h : some ((.error ())) = some r := hk3; have er := Option.some.inj h; subst er
   try simp -implicitDefEqProofs (disch := omega) [go_sem, AT, AU, As, Au]
   exact BA (by exact Bt he3) ((Dl.refl _).del ka0) (hP _ rfl)
end Go.Idl
namespace Go.Idl
open Go Go.Proofs.Tryz
noncomputable def F66 (a0 : AE) (a1 : List (List UInt8 × (List UInt8))) : Option (Except Unit ((List UInt8) × AE × (List (List UInt8 × (List UInt8))))) :=
 if ¬ ((BU a1 ([99, 111, 110, 116, 101, 110, 116, 45, 108, 101, 110, 103, 116, 104])).isSome = true) then (if (BU a1 ([116, 114, 97, 110, 115, 102, 101, 114, 45, 101, 110, 99, 111, 100, 105, 110, 103])).isSome = true then ((F57 ((BU a1 ([116, 114, 97, 110, 115, 102, 101, 114, 45, 101, 110, 99, 111, 100, 105, 110, 103])).getD [])).bind fun (x11 : (List UInt8)) => if x11 = ([99, 104, 117, 110, 107, 101, 100]) then ((F90 a0).bind fun (x14 : Except Unit ((List UInt8) × AE)) => orP x14 (fun (ex14 : Unit) => some (.error ex14)) (fun (y15 : (List UInt8) × AE) => some ((.ok ((y15.1, y15.2, Cd (Cd a1 ([99, 111, 110, 116, 101, 110, 116, 45, 108, 101, 110, 103, 116, 104])) ([116, 114, 97, 110, 115, 102, 101, 114, 45, 101, 110, 99, 111, 100, 105, 110, 103]))))))) else (some (.error ()))) else (if ¬ ((BU a1 ([99, 111, 110, 116, 101, 110, 116, 45, 108, 101, 110, 103, 116, 104])).isSome = true) then (some ((.ok (([], a0, Cd (Cd a1 ([99, 111, 110, 116, 101, 110, 116, 45, 108, 101, 110, 103, 116, 104])) ([116, 114, 97, 110, 115, 102, 101, 114, 45, 101, 110, 99, 111, 100, 105, 110, 103])))))) else ((F33 ((BU a1 ([99, 111, 110, 116, 101, 110, 116, 45, 108, 101, 110, 103, 116, 104])).getD [])).bind fun (x21 : Int × Bool) => if ¬ x21.2 = true then (if 0 ≤ x21.1 then ((F29 x21.1).bind fun (x23 : (List UInt8)) => if x23 = ((BU a1 ([99, 111, 110, 116, 101, 110, 116, 45, 108, 101, 110, 103, 116, 104])).getD []) then ((F91 a0 x21.1).bind fun (x26 : Except Unit ((List UInt8) × AE)) => orP x26 (fun (ex26 : Unit) => some (.error ex26)) (fun (y27 : (List UInt8) × AE) => some ((.ok ((y27.1, y27.2, Cd (Cd a1 ([99, 111, 110, 116, 101, 110, 116, 45, 108, 101, 110, 103, 116, 104])) ([116, 114, 97, 110, 115, 102, 101, 114, 45, 101, 110, 99, 111, 100, 105, 110, 103]))))))) else (some (.error ()))) else (some (.error ()))) else (some (.error ()))))) else (if ¬ ((BU a1 ([116, 114, 97, 110, 115, 102, 101, 114, 45, 101, 110, 99, 111, 100, 105, 110, 103])).isSome = true) then (if (BU a1 ([116, 114, 97, 110, 115, 102, 101, 114, 45, 101, 110, 99, 111, 100, 105, 110, 103])).isSome = true then ((F57 ((BU a1 ([116, 114, 97, 110, 115, 102, 101, 114, 45, 101, 110, 99, 111, 100, 105, 110, 103])).getD [])).bind fun (x35 : (List UInt8)) => if x35 = ([99, 104, 117, 110, 107, 101, 100]) then ((F90 a0).bind fun (x38 : Except Unit ((List UInt8) × AE)) => orP x38 (fun (ex38 : Unit) => some (.error ex38)) (fun (y39 : (List UInt8) × AE) => some ((.ok ((y39.1, y39.2, Cd (Cd a1 ([99, 111, 110, 116, 101, 110, 116, 45, 108, 101, 110, 103, 116, 104])) ([116, 114, 97, 110, 115, 102, 101, 114, 45, 101, 110, 99, 111, 100, 105, 110, 103]))))))) else (some (.error ()))) else (if ¬ ((BU a1 ([99, 111, 110, 116, 101, 110, 116, 45, 108, 101, 110, 103, 116, 104])).isSome = true) then (some ((.ok (([], a0, Cd (Cd a1 ([99, 111, 110, 116, 101, 110, 116, 45, 108, 101, 110, 103, 116, 104])) ([116, 114, 97, 110, 115, 102, 101, 114, 45, 101, 110, 99, 111, 100, 105, 110, 103])))))) else ((F33 ((BU a1 ([99, 111, 110, 116, 101, 110, 116, 45, 108, 101, 110, 103, 116, 104])).getD [])).bind fun (x45 : Int × Bool) => if ¬ x45.2 = true then (if 0 ≤ x45.1 then ((F29 x45.1).bind fun (x47 : (List UInt8)) => if x47 = ((BU a1 ([99, 111, 110, 116, 101, 110, 116, 45, 108, 101, 110, 103, 116, 104])).getD []) then ((F91 a0 x45.1).bind fun (x50 : Except Unit ((List UInt8) × AE)) => orP x50 (fun (ex50 : Unit) => some (.error ex50)) (fun (y51 : (List UInt8) × AE) => some ((.ok ((y51.1, y51.2, Cd (Cd a1 ([99, 111, 110, 116, 101, 110, 116, 45, 108, 101, 110, 103, 116, 104])) ([116, 114, 97, 110, 115, 102, 101, 114, 45, 101, 110, 99, 111, 100, 105, 110, 103]))))))) else (some (.error ()))) else (some (.error ()))) else (some (.error ()))))) else (some (.error ())))
set_option maxHeartbeats 8000000 in
set_option pp.deepTerms false in
set_option maxRecDepth 60000 in
theorem PD {H : A0} {K : An → A0 → Prop} (a0 : AE) (a1 : List (List UInt8 × (List UInt8))) (ka0 : Nat) (ka1 : Nat) (Ad : H.obj ka0 = some (.cells ([.sl 1 (a0.Bl.fb.map fun x => [.v (.int .u8 x.toNat)])]))) (Ak : H.obj ka1 = some (.map (mE (fun (x : List UInt8) => .v (str x)) a1))) (hV : VOK prog H) {r : Except Unit ((List UInt8) × AE × (List (List UInt8 × (List UInt8))))} (h : F66 a0 a1 = some r) (hP : ∀ e, r = .error e → K (.pan (Ci e)) ((H.del ka0).del ka1)) (hK : ∀ v : (List UInt8) × AE × (List (List UInt8 × (List UInt8))), r = .ok v → K (.ret (.sl 1 (v.1.map fun x => [.v (.int .u8 x.toNat)]))) (Dy H [(ka0, .cells ([.sl 1 (v.2.1.Bl.fb.map fun x => [.v (.int .u8 x.toNat)])])), (ka1, .map (mE (fun (x : List UInt8) => .v (str x)) v.2.2))])) : A2 prog 66 [.p ka0 0, .mp ka1] H K := by
 refine Aa (N := 60) func66 (by kernel_rfl) rfl (by kernel_rfl) (by kernel_rfl) fun cb hcb hw hbd hnb => ?_; clear hbd hnb; subst hcb; unfold F66 at h; have O3 : ka0 < H.next := Nat.lt_of_not_le fun q => by rw [hw _ q] at Ad; cases Ad
 have Yn : ka1 < H.next := Nat.lt_of_not_le fun q => by rw [hw _ q] at Ak; cases Ak
 have Ae : ¬ ka0 = ka1 := fun q => by rw [q] at Ad; rw [Ad] at Ak; cases Ak
 have Af : ¬ ka1 = ka0 := fun q => Ae q.symm; refine A1 fun cb hc1 => ?_; refine vcK ?_
 try simp -implicitDefEqProofs (disch := omega) [go_sem, Ad, Ak, Ae, Af]
 subst hc1; refine A1 fun cb hc2 => ?_; refine vcK ?_; have hmL103 := @OU _ (fun (x : List UInt8) => .v (str x))
 try dsimp only at hmL103
 have hmT103 := fun o => S7 (fun (x : List UInt8) => .v (str x)) ([] : List UInt8) (z := .v (str ([] : List UInt8))) (o := o) (by first | rfl | simp [go_sem])
 try dsimp only at hmT103
 try simp -implicitDefEqProofs (disch := omega) [go_sem, Ad, Ak, Ae, Af, hmL103, hmT103]
 subst hc2; refine A1 fun cb hc3 => ?_; refine vcK ?_
 try simp -implicitDefEqProofs (disch := omega) [go_sem, Ad, Ak, Ae, Af, hmL103, hmT103]
 subst hc3; refine A1 fun cb hc4 => ?_; refine vcK ?_; have hmD103 := @QI _ (fun (x : List UInt8) => .v (str x))
 try dsimp only at hmD103
 try simp -implicitDefEqProofs (disch := omega) [go_sem, Ad, Ak, Ae, Af, hmL103, hmT103, hmD103]
 subst hc4; refine A1 fun cb hc5 => ?_; refine vcK ?_
 try simp -implicitDefEqProofs (disch := omega) [go_sem, Ad, Ak, Ae, Af, hmL103, hmT103, hmD103]
 subst hc5; refine A1 fun cb hc6 => ?_; refine vcK ?_
 try simp -implicitDefEqProofs (disch := omega) [go_sem, Ad, Ak, Ae, Af, hmL103, hmT103, hmD103]
 refine A5 h (by first | with_reducible rfl | (simp -implicitDefEqProofs (disch := omega) [go_sem, Ad, Ak, Ae, Af, hmL103, hmT103, hmD103] <;> omega)) ?_ ?_
 ·intro c54 h
  try simp (disch := omega) at c54
  try simp -implicitDefEqProofs (disch := omega) [go_sem, Ad, Ak, Ae, Af, hmL103, hmT103, hmD103]
  refine A2.eqA (args' := [.v (.bool true)]) (by first | with_reducible rfl | (simp -implicitDefEqProofs (disch := omega) [go_sem, Ad, Ak, Ae, Af, hmL103, hmT103, hmD103] <;> omega)) (CE  rfl ?_)
  try simp -implicitDefEqProofs (disch := omega) [go_sem, Ad, Ak, Ae, Af, hmL103, hmT103, hmD103]
  subst hc6; refine A1 fun cb hc7 => ?_; refine A1 fun cb hc8 => ?_; refine vcK ?_
  try simp -implicitDefEqProofs (disch := omega) [go_sem, Ad, Ak, Ae, Af, hmL103, hmT103, hmD103]
  subst hc8; refine Ac h (by first | with_reducible rfl | (simp -implicitDefEqProofs (disch := omega) [go_sem, Ad, Ak, Ae, Af, hmL103, hmT103, hmD103] <;> omega)) rfl ?_ ?_
  ·intro c9 h
   try simp (disch := omega) at c9
   refine A1 fun cb hc10 => ?_; refine vcK ?_
   try simp -implicitDefEqProofs (disch := omega) [go_sem, Ad, Ak, Ae, Af, hmL103, hmT103, hmD103]
   obtain ⟨x11, hx11, h⟩ := A4 h; refine A2.eqA (args' := [.v (str ((BU a1 ([116, 114, 97, 110, 115, 102, 101, 114, 45, 101, 110, 99, 111, 100, 105, 110, 103])).getD []))]) (by first | with_reducible rfl | (simp -implicitDefEqProofs (disch := omega) [go_sem, Ad, Ak, Ae, Af, hmL103, hmT103, hmD103] <;> omega)) (FL ((BU a1 ([116, 114, 97, 110, 115, 102, 101, 114, 45, 101, 110, 99, 111, 100, 105, 110, 103])).getD []) hx11 ?_)
   try simp -implicitDefEqProofs (disch := omega) [go_sem, Ad, Ak, Ae, Af, hmL103, hmT103, hmD103]
   refine A2.eqA (args' := [.v (.bool (decide (x11 = ([99, 104, 117, 110, 107, 101, 100]))))]) (by first | with_reducible rfl | (simp -implicitDefEqProofs (disch := omega) [go_sem, Ad, Ak, Ae, Af, hmL103, hmT103, hmD103] <;> omega)) ?_; by_cases m12 : ¬ (x11 = ([99, 104, 117, 110, 107, 101, 100]))
   ·rw [if_neg m12] at h; refine Bn  (by first | simpa using m12 | exact Bool.eq_false_iff.2 (fun q => m12 (by simpa using q))) ?_
    try simp (disch := omega) at m12
    have er := Option.some.inj h; subst er
    try simp -implicitDefEqProofs (disch := omega) [go_sem, Ad, Ak, Ae, Af, hmL103, hmT103, hmD103]
    exact BA (by exact Bt (Ext.Ao (Ext.Ao (Ext.refl hw) ka0) ka1)) (((Dl.refl _).del ka0).del ka1) (hP _ rfl)
   have m12 := Classical.not_not.1 m12; rw [if_pos m12] at h; refine CE  (by simpa using m12) ?_
   try simp (disch := omega) at m12
   try simp -implicitDefEqProofs (disch := omega) [go_sem, Ad, Ak, Ae, Af, hmL103, hmT103, hmD103]
   subst hc10; refine A1 fun cb hc13 => ?_; refine vcK ?_
   try simp -implicitDefEqProofs (disch := omega) [go_sem, Ad, Ak, Ae, Af, hmL103, hmT103, hmD103]
   obtain ⟨x14, hx14, h⟩ := A4 h; refine A2.eqA (args' := [.p ka0 0]) (by first | with_reducible rfl | (simp -implicitDefEqProofs (disch := omega) [go_sem, Ad, Ak, Ae, Af, hmL103, hmT103, hmD103] <;> omega)) (PC a0 ka0 (by first | with_reducible assumption | simp -implicitDefEqProofs (disch := omega) [go_sem, Ad, Ak, Ae, Af, hmL103, hmT103, hmD103]) (by first | exact hV.of rfl | exact hV.of ((Ext.Ao (Ext.Ao (Ext.refl hw) ka0) ka1)).sn | exact hV.of (Ext.sn (H := H) (by exact A7 (Ext.Ao (Ext.Ao (Ext.refl hw) ka0) ka1))) | exact (VOK.of hV rfl).tok | exact (VOK.of hV ((Ext.Ao (Ext.Ao (Ext.refl hw) ka0) ka1)).sn).tok | exact (VOK.of hV (Ext.sn (H := H) (by exact A7 (Ext.Ao (Ext.Ao (Ext.refl hw) ka0) ka1)))).tok) hx14 ?_ ?_)
   ·intro ex14 qx14; subst qx14; replace h := AO h; have er := Option.some.inj h; subst er
    try simp -implicitDefEqProofs (disch := omega) [go_sem, Ad, Ak, Ae, Af, hmL103, hmT103, hmD103]
    exact BA (by exact Bt (Ext.Ao (Ext.Ao (Ext.refl hw) ka0) ka1)) (((Dl.refl _).del ka0).del ka1) (hP _ rfl)
   intro y15 qx14; subst qx14; replace h := Bh h
   try simp -implicitDefEqProofs (disch := omega) [go_sem, Ad, Ak, Ae, Af, hmL103, hmT103, hmD103]
   subst hc13; refine vcK ?_; simp -implicitDefEqProofs only [go_sem]; have er := Option.some.inj h; subst er
   try simp -implicitDefEqProofs (disch := omega) [go_sem, Ad, Ak, Ae, Af, hmL103, hmT103, hmD103]
   refine AN (r' := .sl 1 (y15.1.map fun x => [.v (.int .u8 x.toNat)])) (Cw.ioL [(ka0, .cells ([.sl 1 (y15.2.Bl.fb.map fun x => [.v (.int .u8 x.toNat)])])), (ka1, .map (mE (fun (x : List UInt8) => .v (str x)) (Cd (Cd a1 ([99, 111, 110, 116, 101, 110, 116, 45, 108, 101, 110, 103, 116, 104])) ([116, 114, 97, 110, 115, 102, 101, 114, 45, 101, 110, 99, 111, 100, 105, 110, 103]))))] (by simp only [Cg, CB]; exact A7 (Ext.Ao (Ext.Ao (Ext.refl hw) ka0) ka1)) (by intro p hp; simp only [List.mem_cons, List.not_mem_nil, or_false] at hp; (try rcases hp with hp | hp); all_goals (subst hp; refine ⟨by omega, by first | with_reducible assumption | rfl | simp -implicitDefEqProofs (disch := omega) [go_sem, Ad, Ak, Ae, Af, hmL103, hmT103, hmD103], by first | exact nbA | exact BY | exact BN⟩))) (by first | with_reducible rfl | (simp -implicitDefEqProofs (disch := omega) [go_sem, Ad, Ak, Ae, Af, hmL103, hmT103, hmD103] <;> omega)) (.same (by first | exact nbA | exact BY | exact BN)) (hK _ rfl)
  ·intro c9 h
   try simp (disch := omega) at c9
   refine vcK ?_; simp -implicitDefEqProofs only [go_sem]; subst hc7; refine A1 fun cb hc16 => ?_; refine A1 fun cb hc17 => ?_; refine vcK ?_
   try simp -implicitDefEqProofs (disch := omega) [go_sem, Ad, Ak, Ae, Af, hmL103, hmT103, hmD103]
   subst hc17; refine Ac h (by first | with_reducible rfl | (simp -implicitDefEqProofs (disch := omega) [go_sem, Ad, Ak, Ae, Af, hmL103, hmT103, hmD103] <;> omega)) rfl ?_ ?_
   ·intro c18 h
    try simp (disch := omega) at c18
    refine A1 fun cb hc19 => ?_; refine vcK ?_
    try simp -implicitDefEqProofs (disch := omega) [go_sem, Ad, Ak, Ae, Af, hmL103, hmT103, hmD103]
    subst hc19; refine IWp.gh (Gh.Lb 4 1 (by (simp -implicitDefEqProofs (disch := omega) [go_sem, Ad, Ak, Ae, Af, hmL103, hmT103, hmD103] <;> omega))) ?_; refine vcK ?_; simp -implicitDefEqProofs only [go_sem]; have er := Option.some.inj h; subst er
    try simp -implicitDefEqProofs (disch := omega) [go_sem, Ad, Ak, Ae, Af, hmL103, hmT103, hmD103]
    refine AN (r' := .sl 1 (([] : List UInt8).map fun x => [.v (.int .u8 x.toNat)])) (Cw.ioL [(ka0, .cells ([.sl 1 (a0.Bl.fb.map fun x => [.v (.int .u8 x.toNat)])])), (ka1, .map (mE (fun (x : List UInt8) => .v (str x)) (Cd (Cd a1 ([99, 111, 110, 116, 101, 110, 116, 45, 108, 101, 110, 103, 116, 104])) ([116, 114, 97, 110, 115, 102, 101, 114, 45, 101, 110, 99, 111, 100, 105, 110, 103]))))] (by simp only [Cg, CB]; exact A7 (Ext.Ao (Ext.Ao (Ext.refl hw) ka0) ka1)) (by intro p hp; simp only [List.mem_cons, List.not_mem_nil, or_false] at hp; (try rcases hp with hp | hp); all_goals (subst hp; refine ⟨by omega, by first | with_reducible assumption | rfl | simp -implicitDefEqProofs (disch := omega) [go_sem, Ad, Ak, Ae, Af, hmL103, hmT103, hmD103], by first | exact nbA | exact BY | exact BN⟩))) (by first | with_reducible rfl | (simp -implicitDefEqProofs (disch := omega) [go_sem, Ad, Ak, Ae, Af, hmL103, hmT103, hmD103] <;> omega)) (.same (by first | exact nbA | exact BY | exact BN)) (hK _ rfl)
   ·intro c18 h
    try simp (disch := omega) at c18
    refine vcK ?_; simp -implicitDefEqProofs only [go_sem]; subst hc16; refine A1 fun cb hc20 => ?_; refine vcK ?_
    try simp -implicitDefEqProofs (disch := omega) [go_sem, Ad, Ak, Ae, Af, hmL103, hmT103, hmD103]
    obtain ⟨x21, hx21, h⟩ := A4 h; refine A2.eqA (args' := [.v (str ((BU a1 ([99, 111, 110, 116, 101, 110, 116, 45, 108, 101, 110, 103, 116, 104])).getD []))]) (by first | with_reducible rfl | (simp -implicitDefEqProofs (disch := omega) [go_sem, Ad, Ak, Ae, Af, hmL103, hmT103, hmD103] <;> omega)) (MI ((BU a1 ([99, 111, 110, 116, 101, 110, 116, 45, 108, 101, 110, 103, 116, 104])).getD []) (by first | exact hV.of rfl | exact hV.of ((Ext.Ao (Ext.Ao (Ext.refl hw) ka0) ka1)).sn | exact hV.of (Ext.sn (H := H) (by exact A7 (Ext.Ao (Ext.Ao (Ext.refl hw) ka0) ka1))) | exact (VOK.of hV rfl).tok | exact (VOK.of hV ((Ext.Ao (Ext.Ao (Ext.refl hw) ka0) ka1)).sn).tok | exact (VOK.of hV (Ext.sn (H := H) (by exact A7 (Ext.Ao (Ext.Ao (Ext.refl hw) ka0) ka1)))).tok) hx21 ?_)
    try simp -implicitDefEqProofs (disch := omega) [go_sem, Ad, Ak, Ae, Af, hmL103, hmT103, hmD103]
    subst hc20; refine A1 fun cb hc22 => ?_; refine vcK ?_
    try simp -implicitDefEqProofs (disch := omega) [go_sem, Ad, Ak, Ae, Af, hmL103, hmT103, hmD103]
    refine A5 h (by first | with_reducible rfl | (simp -implicitDefEqProofs (disch := omega) [go_sem, Ad, Ak, Ae, Af, hmL103, hmT103, hmD103] <;> omega)) ?_ ?_
    ·intro c29 h
     try simp (disch := omega) at c29
     try simp -implicitDefEqProofs (disch := omega) [go_sem, Ad, Ak, Ae, Af, hmL103, hmT103, hmD103]
     refine A5 h (by first | with_reducible rfl | (simp -implicitDefEqProofs (disch := omega) [go_sem, Ad, Ak, Ae, Af, hmL103, hmT103, hmD103] <;> omega)) ?_ ?_
     ·intro c28 h
      try simp (disch := omega) at c28
      try simp -implicitDefEqProofs (disch := omega) [go_sem, Ad, Ak, Ae, Af, hmL103, hmT103, hmD103]
      obtain ⟨x23, hx23, h⟩ := A4 h; refine A2.eqA (args' := [.v (.int .i64 x21.1)]) (by first | with_reducible rfl | (simp -implicitDefEqProofs (disch := omega) [go_sem, Ad, Ak, Ae, Af, hmL103, hmT103, hmD103] <;> omega)) (Kq x21.1 (by first | exact hV.of rfl | exact hV.of ((Ext.Ao (Ext.Ao (Ext.refl hw) ka0) ka1)).sn | exact hV.of (Ext.sn (H := H) (by exact A7 (Ext.Ao (Ext.Ao (Ext.refl hw) ka0) ka1))) | exact (VOK.of hV rfl).tok | exact (VOK.of hV ((Ext.Ao (Ext.Ao (Ext.refl hw) ka0) ka1)).sn).tok | exact (VOK.of hV (Ext.sn (H := H) (by exact A7 (Ext.Ao (Ext.Ao (Ext.refl hw) ka0) ka1)))).tok) hx23 ?_)
      try simp -implicitDefEqProofs (disch := omega) [go_sem, Ad, Ak, Ae, Af, hmL103, hmT103, hmD103]
      refine A2.eqA (args' := [.v (.bool (decide (x23 = ((BU a1 ([99, 111, 110, 116, 101, 110, 116, 45, 108, 101, 110, 103, 116, 104])).getD []))))]) (by first | with_reducible rfl | (simp -implicitDefEqProofs (disch := omega) [go_sem, Ad, Ak, Ae, Af, hmL103, hmT103, hmD103] <;> omega)) ?_; by_cases m24 : ¬ (x23 = ((BU a1 ([99, 111, 110, 116, 101, 110, 116, 45, 108, 101, 110, 103, 116, 104])).getD []))
      ·rw [if_neg m24] at h; refine Bn  (by first | simpa using m24 | exact Bool.eq_false_iff.2 (fun q => m24 (by simpa using q))) ?_
       try simp (disch := omega) at m24
       have er := Option.some.inj h; subst er
       try simp -implicitDefEqProofs (disch := omega) [go_sem, Ad, Ak, Ae, Af, hmL103, hmT103, hmD103]
       exact BA (by exact Bt (Ext.Ao (Ext.Ao (Ext.refl hw) ka0) ka1)) (((Dl.refl _).del ka0).del ka1) (hP _ rfl)
      have m24 := Classical.not_not.1 m24; rw [if_pos m24] at h; refine CE  (by simpa using m24) ?_
      try simp (disch := omega) at m24
      try simp -implicitDefEqProofs (disch := omega) [go_sem, Ad, Ak, Ae, Af, hmL103, hmT103, hmD103]
      subst hc22; refine A1 fun cb hc25 => ?_; refine vcK ?_
      try simp -implicitDefEqProofs (disch := omega) [go_sem, Ad, Ak, Ae, Af, hmL103, hmT103, hmD103]
      obtain ⟨x26, hx26, h⟩ := A4 h; refine A2.eqA (args' := [.p ka0 0, .v (.int .i64 x21.1)]) (by first | with_reducible rfl | (simp -implicitDefEqProofs (disch := omega) [go_sem, Ad, Ak, Ae, Af, hmL103, hmT103, hmD103] <;> omega)) (MR a0 x21.1 ka0 (by first | with_reducible assumption | simp -implicitDefEqProofs (disch := omega) [go_sem, Ad, Ak, Ae, Af, hmL103, hmT103, hmD103]) hx26 ?_ ?_)
      ·intro ex26 qx26; subst qx26; replace h := AO h; have er := Option.some.inj h; subst er
       try simp -implicitDefEqProofs (disch := omega) [go_sem, Ad, Ak, Ae, Af, hmL103, hmT103, hmD103]
       exact BA (by exact Bt (Ext.Ao (Ext.Ao (Ext.refl hw) ka0) ka1)) (((Dl.refl _).del ka0).del ka1) (hP _ rfl)
      intro y27 qx26; subst qx26; replace h := Bh h
      try simp -implicitDefEqProofs (disch := omega) [go_sem, Ad, Ak, Ae, Af, hmL103, hmT103, hmD103]
      subst hc25; refine vcK ?_; simp -implicitDefEqProofs only [go_sem]; have er := Option.some.inj h; subst er
      try simp -implicitDefEqProofs (disch := omega) [go_sem, Ad, Ak, Ae, Af, hmL103, hmT103, hmD103]
      refine AN (r' := .sl 1 (y27.1.map fun x => [.v (.int .u8 x.toNat)])) (Cw.ioL [(ka0, .cells ([.sl 1 (y27.2.Bl.fb.map fun x => [.v (.int .u8 x.toNat)])])), (ka1, .map (mE (fun (x : List UInt8) => .v (str x)) (Cd (Cd a1 ([99, 111, 110, 116, 101, 110, 116, 45, 108, 101, 110, 103, 116, 104])) ([116, 114, 97, 110, 115, 102, 101, 114, 45, 101, 110, 99, 111, 100, 105, 110, 103]))))] (by simp only [Cg, CB]; exact A7 (Ext.Ao (Ext.Ao (Ext.refl hw) ka0) ka1)) (by intro p hp; simp only [List.mem_cons, List.not_mem_nil, or_false] at hp; (try rcases hp with hp | hp); all_goals (subst hp; refine ⟨by omega, by first | with_reducible assumption | rfl | simp -implicitDefEqProofs (disch := omega) [go_sem, Ad, Ak, Ae, Af, hmL103, hmT103, hmD103], by first | exact nbA | exact BY | exact BN⟩))) (by first | with_reducible rfl | (simp -implicitDefEqProofs (disch := omega) [go_sem, Ad, Ak, Ae, Af, hmL103, hmT103, hmD103] <;> omega)) (.same (by first | exact nbA | exact BY | exact BN)) (hK _ rfl)
     ·intro c28 h
      try simp (disch := omega) at c28
      try simp -implicitDefEqProofs (disch := omega) [go_sem, Ad, Ak, Ae, Af, hmL103, hmT103, hmD103]
      refine A2.eqA (args' := [.v (.bool false)]) (by first | with_reducible rfl | (simp -implicitDefEqProofs (disch := omega) [go_sem, Ad, Ak, Ae, Af, hmL103, hmT103, hmD103] <;> omega)) (Bn  rfl ?_); have er := Option.some.inj h; subst er
      try simp -implicitDefEqProofs (disch := omega) [go_sem, Ad, Ak, Ae, Af, hmL103, hmT103, hmD103]
      exact BA (by exact Bt (Ext.Ao (Ext.Ao (Ext.refl hw) ka0) ka1)) (((Dl.refl _).del ka0).del ka1) (hP _ rfl)
    ·intro c29 h
     try simp (disch := omega) at c29
     try simp -implicitDefEqProofs (disch := omega) [go_sem, Ad, Ak, Ae, Af, hmL103, hmT103, hmD103]
     refine A2.eqA (args' := [.v (.bool false)]) (by first | with_reducible rfl | (simp -implicitDefEqProofs (disch := omega) [go_sem, Ad, Ak, Ae, Af, hmL103, hmT103, hmD103] <;> omega)) (Bn  rfl ?_); have er := Option.some.inj h; subst er
     try simp -implicitDefEqProofs (disch := omega) [go_sem, Ad, Ak, Ae, Af, hmL103, hmT103, hmD103]
     exact BA (by exact Bt (Ext.Ao (Ext.Ao (Ext.refl hw) ka0) ka1)) (((Dl.refl _).del ka0).del ka1) (hP _ rfl)
 ·intro c54 h
  try simp (disch := omega) at c54
  try simp -implicitDefEqProofs (disch := omega) [go_sem, Ad, Ak, Ae, Af, hmL103, hmT103, hmD103]
  refine A2.eqA (args' := [.v (.bool (!((BU a1 ([116, 114, 97, 110, 115, 102, 101, 114, 45, 101, 110, 99, 111, 100, 105, 110, 103])).isSome)))]) (by first | with_reducible rfl | (simp -implicitDefEqProofs (disch := omega) [go_sem, Ad, Ak, Ae, Af, hmL103, hmT103, hmD103] <;> omega)) ?_; by_cases m30 : ¬ (¬ ((BU a1 ([116, 114, 97, 110, 115, 102, 101, 114, 45, 101, 110, 99, 111, 100, 105, 110, 103])).isSome = true))
  ·rw [if_neg m30] at h; refine Bn  (by first | simpa using m30 | exact Bool.eq_false_iff.2 (fun q => m30 (by simpa using q))) ?_
   try simp (disch := omega) at m30
   have er := Option.some.inj h; subst er
   try simp -implicitDefEqProofs (disch := omega) [go_sem, Ad, Ak, Ae, Af, hmL103, hmT103, hmD103]
   exact BA (by exact Bt (Ext.Ao (Ext.Ao (Ext.refl hw) ka0) ka1)) (((Dl.refl _).del ka0).del ka1) (hP _ rfl)
  have m30 := Classical.not_not.1 m30; rw [if_pos m30] at h; refine CE  (by simpa using m30) ?_
  try simp (disch := omega) at m30
  try simp -implicitDefEqProofs (disch := omega) [go_sem, Ad, Ak, Ae, Af, hmL103, hmT103, hmD103]
  subst hc6; refine A1 fun cb hc31 => ?_; refine A1 fun cb hc32 => ?_; refine vcK ?_
  try simp -implicitDefEqProofs (disch := omega) [go_sem, Ad, Ak, Ae, Af, hmL103, hmT103, hmD103]
  subst hc32; refine Ac h (by first | with_reducible rfl | (simp -implicitDefEqProofs (disch := omega) [go_sem, Ad, Ak, Ae, Af, hmL103, hmT103, hmD103] <;> omega)) rfl ?_ ?_
  ·intro c33 h
   try simp (disch := omega) at c33
   refine A1 fun cb hc34 => ?_; refine vcK ?_
   try simp -implicitDefEqProofs (disch := omega) [go_sem, Ad, Ak, Ae, Af, hmL103, hmT103, hmD103]
   obtain ⟨x35, hx35, h⟩ := A4 h; refine A2.eqA (args' := [.v (str ((BU a1 ([116, 114, 97, 110, 115, 102, 101, 114, 45, 101, 110, 99, 111, 100, 105, 110, 103])).getD []))]) (by first | with_reducible rfl | (simp -implicitDefEqProofs (disch := omega) [go_sem, Ad, Ak, Ae, Af, hmL103, hmT103, hmD103] <;> omega)) (FL ((BU a1 ([116, 114, 97, 110, 115, 102, 101, 114, 45, 101, 110, 99, 111, 100, 105, 110, 103])).getD []) hx35 ?_)
   try simp -implicitDefEqProofs (disch := omega) [go_sem, Ad, Ak, Ae, Af, hmL103, hmT103, hmD103]
   refine A2.eqA (args' := [.v (.bool (decide (x35 = ([99, 104, 117, 110, 107, 101, 100]))))]) (by first | with_reducible rfl | (simp -implicitDefEqProofs (disch := omega) [go_sem, Ad, Ak, Ae, Af, hmL103, hmT103, hmD103] <;> omega)) ?_; by_cases m36 : ¬ (x35 = ([99, 104, 117, 110, 107, 101, 100]))
   ·rw [if_neg m36] at h; refine Bn  (by first | simpa using m36 | exact Bool.eq_false_iff.2 (fun q => m36 (by simpa using q))) ?_
    try simp (disch := omega) at m36
    have er := Option.some.inj h; subst er
    try simp -implicitDefEqProofs (disch := omega) [go_sem, Ad, Ak, Ae, Af, hmL103, hmT103, hmD103]
    exact BA (by exact Bt (Ext.Ao (Ext.Ao (Ext.refl hw) ka0) ka1)) (((Dl.refl _).del ka0).del ka1) (hP _ rfl)
   have m36 := Classical.not_not.1 m36; rw [if_pos m36] at h; refine CE  (by simpa using m36) ?_
   try simp (disch := omega) at m36
   try simp -implicitDefEqProofs (disch := omega) [go_sem, Ad, Ak, Ae, Af, hmL103, hmT103, hmD103]
   subst hc34; refine A1 fun cb hc37 => ?_; refine vcK ?_
   try simp -implicitDefEqProofs (disch := omega) [go_sem, Ad, Ak, Ae, Af, hmL103, hmT103, hmD103]
   obtain ⟨x38, hx38, h⟩ := A4 h; refine A2.eqA (args' := [.p ka0 0]) (by first | with_reducible rfl | (simp -implicitDefEqProofs (disch := omega) [go_sem, Ad, Ak, Ae, Af, hmL103, hmT103, hmD103] <;> omega)) (PC a0 ka0 (by first | with_reducible assumption | simp -implicitDefEqProofs (disch := omega) [go_sem, Ad, Ak, Ae, Af, hmL103, hmT103, hmD103]) (by first | exact hV.of rfl | exact hV.of ((Ext.Ao (Ext.Ao (Ext.refl hw) ka0) ka1)).sn | exact hV.of (Ext.sn (H := H) (by exact A7 (Ext.Ao (Ext.Ao (Ext.refl hw) ka0) ka1))) | exact (VOK.of hV rfl).tok | exact (VOK.of hV ((Ext.Ao (Ext.Ao (Ext.refl hw) ka0) ka1)).sn).tok | exact (VOK.of hV (Ext.sn (H := H) (by exact A7 (Ext.Ao (Ext.Ao (Ext.refl hw) ka0) ka1)))).tok) hx38 ?_ ?_)
   ·intro ex38 qx38; subst qx38; replace h := AO h; have er := Option.some.inj h; subst er
    try simp -implicitDefEqProofs (disch := omega) [go_sem, Ad, Ak, Ae, Af, hmL103, hmT103, hmD103]
    exact BA (by exact Bt (Ext.Ao (Ext.Ao (Ext.refl hw) ka0) ka1)) (((Dl.refl _).del ka0).del ka1) (hP _ rfl)
   intro y39 qx38; subst qx38; replace h := Bh h
   try simp -implicitDefEqProofs (disch := omega) [go_sem, Ad, Ak, Ae, Af, hmL103, hmT103, hmD103]
   subst hc37; refine vcK ?_; simp -implicitDefEqProofs only [go_sem]; have er := Option.some.inj h; subst er
   try simp -implicitDefEqProofs (disch := omega) [go_sem, Ad, Ak, Ae, Af, hmL103, hmT103, hmD103]
   refine AN (r' := .sl 1 (y39.1.map fun x => [.v (.int .u8 x.toNat)])) (Cw.ioL [(ka0, .cells ([.sl 1 (y39.2.Bl.fb.map fun x => [.v (.int .u8 x.toNat)])])), (ka1, .map (mE (fun (x : List UInt8) => .v (str x)) (Cd (Cd a1 ([99, 111, 110, 116, 101, 110, 116, 45, 108, 101, 110, 103, 116, 104])) ([116, 114, 97, 110, 115, 102, 101, 114, 45, 101, 110, 99, 111, 100, 105, 110, 103]))))] (by simp only [Cg, CB]; exact A7 (Ext.Ao (Ext.Ao (Ext.refl hw) ka0) ka1)) (by intro p hp; simp only [List.mem_cons, List.not_mem_nil, or_false] at hp; (try rcases hp with hp | hp); all_goals (subst hp; refine ⟨by omega, by first | with_reducible assumption | rfl | simp -implicitDefEqProofs (disch := omega) [go_sem, Ad, Ak, Ae, Af, hmL103, hmT103, hmD103], by first | exact nbA | exact BY | exact BN⟩))) (by first | with_reducible rfl | (simp -implicitDefEqProofs (disch := omega) [go_sem, Ad, Ak, Ae, Af, hmL103, hmT103, hmD103] <;> omega)) (.same (by first | exact nbA | exact BY | exact BN)) (hK _ rfl)
  ·intro c33 h
   try simp (disch := omega) at c33
   refine vcK ?_; simp -implicitDefEqProofs only [go_sem]; subst hc31; refine A1 fun cb hc40 => ?_; refine A1 fun cb hc41 => ?_; refine vcK ?_
   try simp -implicitDefEqProofs (disch := omega) [go_sem, Ad, Ak, Ae, Af, hmL103, hmT103, hmD103]
   subst hc41; refine Ac h (by first | with_reducible rfl | (simp -implicitDefEqProofs (disch := omega) [go_sem, Ad, Ak, Ae, Af, hmL103, hmT103, hmD103] <;> omega)) rfl ?_ ?_
   ·intro c42 h
    try simp (disch := omega) at c42
    refine A1 fun cb hc43 => ?_; refine vcK ?_
    try simp -implicitDefEqProofs (disch := omega) [go_sem, Ad, Ak, Ae, Af, hmL103, hmT103, hmD103]
    subst hc43; refine IWp.gh (Gh.Lb 4 1 (by (simp -implicitDefEqProofs (disch := omega) [go_sem, Ad, Ak, Ae, Af, hmL103, hmT103, hmD103] <;> omega))) ?_; refine vcK ?_; simp -implicitDefEqProofs only [go_sem]; have er := Option.some.inj h; subst er
    try simp -implicitDefEqProofs (disch := omega) [go_sem, Ad, Ak, Ae, Af, hmL103, hmT103, hmD103]
    refine AN (r' := .sl 1 (([] : List UInt8).map fun x => [.v (.int .u8 x.toNat)])) (Cw.ioL [(ka0, .cells ([.sl 1 (a0.Bl.fb.map fun x => [.v (.int .u8 x.toNat)])])), (ka1, .map (mE (fun (x : List UInt8) => .v (str x)) (Cd (Cd a1 ([99, 111, 110, 116, 101, 110, 116, 45, 108, 101, 110, 103, 116, 104])) ([116, 114, 97, 110, 115, 102, 101, 114, 45, 101, 110, 99, 111, 100, 105, 110, 103]))))] (by simp only [Cg, CB]; exact A7 (Ext.Ao (Ext.Ao (Ext.refl hw) ka0) ka1)) (by intro p hp; simp only [List.mem_cons, List.not_mem_nil, or_false] at hp; (try rcases hp with hp | hp); all_goals (subst hp; refine ⟨by omega, by first | with_reducible assumption | rfl | simp -implicitDefEqProofs (disch := omega) [go_sem, Ad, Ak, Ae, Af, hmL103, hmT103, hmD103], by first | exact nbA | exact BY | exact BN⟩))) (by first | with_reducible rfl | (simp -implicitDefEqProofs (disch := omega) [go_sem, Ad, Ak, Ae, Af, hmL103, hmT103, hmD103] <;> omega)) (.same (by first | exact nbA | exact BY | exact BN)) (hK _ rfl)
   ·intro c42 h
    try simp (disch := omega) at c42
    refine vcK ?_; simp -implicitDefEqProofs only [go_sem]; subst hc40; refine A1 fun cb hc44 => ?_; refine vcK ?_
    try simp -implicitDefEqProofs (disch := omega) [go_sem, Ad, Ak, Ae, Af, hmL103, hmT103, hmD103]
    obtain ⟨x45, hx45, h⟩ := A4 h; refine A2.eqA (args' := [.v (str ((BU a1 ([99, 111, 110, 116, 101, 110, 116, 45, 108, 101, 110, 103, 116, 104])).getD []))]) (by first | with_reducible rfl | (simp -implicitDefEqProofs (disch := omega) [go_sem, Ad, Ak, Ae, Af, hmL103, hmT103, hmD103] <;> omega)) (MI ((BU a1 ([99, 111, 110, 116, 101, 110, 116, 45, 108, 101, 110, 103, 116, 104])).getD []) (by first | exact hV.of rfl | exact hV.of ((Ext.Ao (Ext.Ao (Ext.refl hw) ka0) ka1)).sn | exact hV.of (Ext.sn (H := H) (by exact A7 (Ext.Ao (Ext.Ao (Ext.refl hw) ka0) ka1))) | exact (VOK.of hV rfl).tok | exact (VOK.of hV ((Ext.Ao (Ext.Ao (Ext.refl hw) ka0) ka1)).sn).tok | exact (VOK.of hV (Ext.sn (H := H) (by exact A7 (Ext.Ao (Ext.Ao (Ext.refl hw) ka0) ka1)))).tok) hx45 ?_)
    try simp -implicitDefEqProofs (disch := omega) [go_sem, Ad, Ak, Ae, Af, hmL103, hmT103, hmD103]
    subst hc44; refine A1 fun cb hc46 => ?_; refine vcK ?_
    try simp -implicitDefEqProofs (disch := omega) [go_sem, Ad, Ak, Ae, Af, hmL103, hmT103, hmD103]
    refine A5 h (by first | with_reducible rfl | (simp -implicitDefEqProofs (disch := omega) [go_sem, Ad, Ak, Ae, Af, hmL103, hmT103, hmD103] <;> omega)) ?_ ?_
    ·intro c53 h
     try simp (disch := omega) at c53
     try simp -implicitDefEqProofs (disch := omega) [go_sem, Ad, Ak, Ae, Af, hmL103, hmT103, hmD103]
     refine A5 h (by first | with_reducible rfl | (simp -implicitDefEqProofs (disch := omega) [go_sem, Ad, Ak, Ae, Af, hmL103, hmT103, hmD103] <;> omega)) ?_ ?_
     ·intro c52 h
      try simp (disch := omega) at c52
      try simp -implicitDefEqProofs (disch := omega) [go_sem, Ad, Ak, Ae, Af, hmL103, hmT103, hmD103]
      obtain ⟨x47, hx47, h⟩ := A4 h; refine A2.eqA (args' := [.v (.int .i64 x45.1)]) (by first | with_reducible rfl | (simp -implicitDefEqProofs (disch := omega) [go_sem, Ad, Ak, Ae, Af, hmL103, hmT103, hmD103] <;> omega)) (Kq x45.1 (by first | exact hV.of rfl | exact hV.of ((Ext.Ao (Ext.Ao (Ext.refl hw) ka0) ka1)).sn | exact hV.of (Ext.sn (H := H) (by exact A7 (Ext.Ao (Ext.Ao (Ext.refl hw) ka0) ka1))) | exact (VOK.of hV rfl).tok | exact (VOK.of hV ((Ext.Ao (Ext.Ao (Ext.refl hw) ka0) ka1)).sn).tok | exact (VOK.of hV (Ext.sn (H := H) (by exact A7 (Ext.Ao (Ext.Ao (Ext.refl hw) ka0) ka1)))).tok) hx47 ?_)
      try simp -implicitDefEqProofs (disch := omega) [go_sem, Ad, Ak, Ae, Af, hmL103, hmT103, hmD103]
      refine A2.eqA (args' := [.v (.bool (decide (x47 = ((BU a1 ([99, 111, 110, 116, 101, 110, 116, 45, 108, 101, 110, 103, 116, 104])).getD []))))]) (by first | with_reducible rfl | (simp -implicitDefEqProofs (disch := omega) [go_sem, Ad, Ak, Ae, Af, hmL103, hmT103, hmD103] <;> omega)) ?_; by_cases m48 : ¬ (x47 = ((BU a1 ([99, 111, 110, 116, 101, 110, 116, 45, 108, 101, 110, 103, 116, 104])).getD []))
      ·rw [if_neg m48] at h; refine Bn  (by first | simpa using m48 | exact Bool.eq_false_iff.2 (fun q => m48 (by simpa using q))) ?_
       try simp (disch := omega) at m48
       have er := Option.some.inj h; subst er
       try simp -implicitDefEqProofs (disch := omega) [go_sem, Ad, Ak, Ae, Af, hmL103, hmT103, hmD103]
       exact BA (by exact Bt (Ext.Ao (Ext.Ao (Ext.refl hw) ka0) ka1)) (((Dl.refl _).del ka0).del ka1) (hP _ rfl)
      have m48 := Classical.not_not.1 m48; rw [if_pos m48] at h; refine CE  (by simpa using m48) ?_
      try simp (disch := omega) at m48
      try simp -implicitDefEqProofs (disch := omega) [go_sem, Ad, Ak, Ae, Af, hmL103, hmT103, hmD103]
      subst hc46; refine A1 fun cb hc49 => ?_; refine vcK ?_
      try simp -implicitDefEqProofs (disch := omega) [go_sem, Ad, Ak, Ae, Af, hmL103, hmT103, hmD103]
      obtain ⟨x50, hx50, h⟩ := A4 h; refine A2.eqA (args' := [.p ka0 0, .v (.int .i64 x45.1)]) (by first | with_reducible rfl | (simp -implicitDefEqProofs (disch := omega) [go_sem, Ad, Ak, Ae, Af, hmL103, hmT103, hmD103] <;> omega)) (MR a0 x45.1 ka0 (by first | with_reducible assumption | simp -implicitDefEqProofs (disch := omega) [go_sem, Ad, Ak, Ae, Af, hmL103, hmT103, hmD103]) hx50 ?_ ?_)
      ·intro ex50 qx50; subst qx50; replace h := AO h; have er := Option.some.inj h; subst er
       try simp -implicitDefEqProofs (disch := omega) [go_sem, Ad, Ak, Ae, Af, hmL103, hmT103, hmD103]
       exact BA (by exact Bt (Ext.Ao (Ext.Ao (Ext.refl hw) ka0) ka1)) (((Dl.refl _).del ka0).del ka1) (hP _ rfl)
      intro y51 qx50; subst qx50; replace h := Bh h
      try simp -implicitDefEqProofs (disch := omega) [go_sem, Ad, Ak, Ae, Af, hmL103, hmT103, hmD103]
      subst hc49; refine vcK ?_; simp -implicitDefEqProofs only [go_sem]; have er := Option.some.inj h; subst er
      try simp -implicitDefEqProofs (disch := omega) [go_sem, Ad, Ak, Ae, Af, hmL103, hmT103, hmD103]
      refine AN (r' := .sl 1 (y51.1.map fun x => [.v (.int .u8 x.toNat)])) (Cw.ioL [(ka0, .cells ([.sl 1 (y51.2.Bl.fb.map fun x => [.v (.int .u8 x.toNat)])])), (ka1, .map (mE (fun (x : List UInt8) => .v (str x)) (Cd (Cd a1 ([99, 111, 110, 116, 101, 110, 116, 45, 108, 101, 110, 103, 116, 104])) ([116, 114, 97, 110, 115, 102, 101, 114, 45, 101, 110, 99, 111, 100, 105, 110, 103]))))] (by simp only [Cg, CB]; exact A7 (Ext.Ao (Ext.Ao (Ext.refl hw) ka0) ka1)) (by intro p hp; simp only [List.mem_cons, List.not_mem_nil, or_false] at hp; (try rcases hp with hp | hp); all_goals (subst hp; refine ⟨by omega, by first | with_reducible assumption | rfl | simp -implicitDefEqProofs (disch := omega) [go_sem, Ad, Ak, Ae, Af, hmL103, hmT103, hmD103], by first | exact nbA | exact BY | exact BN⟩))) (by first | with_reducible rfl | (simp -implicitDefEqProofs (disch := omega) [go_sem, Ad, Ak, Ae, Af, hmL103, hmT103, hmD103] <;> omega)) (.same (by first | exact nbA | exact BY | exact BN)) (hK _ rfl)
     ·intro c52 h
      try simp (disch := omega) at c52
      try simp -implicitDefEqProofs (disch := omega) [go_sem, Ad, Ak, Ae, Af, hmL103, hmT103, hmD103]
      refine A2.eqA (args' := [.v (.bool false)]) (by first | with_reducible rfl | (simp -implicitDefEqProofs (disch := omega) [go_sem, Ad, Ak, Ae, Af, hmL103, hmT103, hmD103] <;> omega)) (Bn  rfl ?_); have er := Option.some.inj h; subst er
      try simp -implicitDefEqProofs (disch := omega) [go_sem, Ad, Ak, Ae, Af, hmL103, hmT103, hmD103]
      exact BA (by exact Bt (Ext.Ao (Ext.Ao (Ext.refl hw) ka0) ka1)) (((Dl.refl _).del ka0).del ka1) (hP _ rfl)
    ·intro c53 h
     try simp (disch := omega) at c53
     try simp -implicitDefEqProofs (disch := omega) [go_sem, Ad, Ak, Ae, Af, hmL103, hmT103, hmD103]
     refine A2.eqA (args' := [.v (.bool false)]) (by first | with_reducible rfl | (simp -implicitDefEqProofs (disch := omega) [go_sem, Ad, Ak, Ae, Af, hmL103, hmT103, hmD103] <;> omega)) (Bn  rfl ?_); have er := Option.some.inj h; subst er
     try simp -implicitDefEqProofs (disch := omega) [go_sem, Ad, Ak, Ae, Af, hmL103, hmT103, hmD103]
     exact BA (by exact Bt (Ext.Ao (Ext.Ao (Ext.refl hw) ka0) ka1)) (((Dl.refl _).del ka0).del ka1) (hP _ rfl)
noncomputable def F37 (a0 : S25) (a1 : List S55) (a2 : List UInt8) : Option S25 :=
 some (⟨a0.Em, a1, a2⟩ : S25)
set_option maxHeartbeats 8000000 in
set_option pp.deepTerms false in
set_option maxRecDepth 60000 in
theorem TW {H : A0} {K : An → A0 → Prop} (a0 : S25) (a1 : List S55) (a2 : List UInt8) (ka0 : Nat) (Ad : H.obj ka0 = some (.cells ([.v (.int .i64 a0.Em), .sl 2 (a0.A9.map fun x => [.v (str x.fName), .v (str x.A6)]), .sl 1 (a0.Al.map fun x => [.v (.int .u8 x.toNat)])]))) {r : S25} (h : F37 a0 a1 a2 = some r) (hK : K (.ret (.tu [])) (Dy H [(ka0, .cells ([.v (.int .i64 r.Em), .sl 2 (r.A9.map fun x => [.v (str x.fName), .v (str x.A6)]), .sl 1 (r.Al.map fun x => [.v (.int .u8 x.toNat)])]))])) : A2 prog 37 [.p ka0 0, .sl 2 (a1.map fun x => [.v (str x.fName), .v (str x.A6)]), .sl 1 (a2.map fun x => [.v (.int .u8 x.toNat)])] H K := by
 refine Aa (N := 14) func37 (by kernel_rfl) rfl (by kernel_rfl) (by kernel_rfl) fun cb hcb hw hbd hnb => ?_; clear hbd hnb; subst hcb; unfold F37 at h; have O3 : ka0 < H.next := Nat.lt_of_not_le fun q => by rw [hw _ q] at Ad; cases Ad
 refine vcK ?_
 try simp -implicitDefEqProofs (disch := omega) [go_sem, Ad]
 have er := Option.some.inj h; subst er
 try simp -implicitDefEqProofs (disch := omega) [go_sem, Ad]
 refine AN (r' := .tu []) (io1 ka0 (.cells ([.v (.int .i64 a0.Em), .sl 2 (a1.map fun x => [.v (str x.fName), .v (str x.A6)]), .sl 1 (a2.map fun x => [.v (.int .u8 x.toNat)])])) (by exact A7 (Ext.Ao (Ext.refl hw) ka0)) (by omega) (by first | with_reducible assumption | rfl | simp -implicitDefEqProofs (disch := omega) [go_sem, Ad]) (by first | exact nbA | exact BY | exact BN)) (by first | with_reducible rfl | (simp -implicitDefEqProofs (disch := omega) [go_sem, Ad] <;> omega)) (.same (by first | exact nbA | exact BY | exact BN)) hK
end Go.Idl
