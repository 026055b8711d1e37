/- The bytes of any request, or that there are none; they are that request again: the saying of the case law 12 Part 5. Conditions: none. -/
import Derived.Test.YtdgfbojdppohnaaGreatDoorPartD
set_option linter.unusedSimpArgs false
set_option linter.unusedVariables false
namespace Go.Idl
open Go Go.Proofs.Tryz
def S55.zero : S55 := ⟨[], []⟩
structure S25 where
 Ea : Int
 Aj : List S55
 An : List UInt8
deriving DecidableEq
def S25.zero : S25 := ⟨0, [], []⟩
structure S42 where
 Ag : List UInt8
 Ax : List UInt8
 Aj : List S55
 An : List UInt8
deriving DecidableEq
def S42.zero : S42 := ⟨[], [], [], []⟩
structure S98 where
 fb : List UInt8
deriving DecidableEq
def S98.zero : S98 := ⟨[]⟩
structure AA where
 Bb : S98
deriving DecidableEq
def AA.zero : AA := ⟨S98.zero⟩
structure Cs where
 fType : List UInt8
 A5 : List UInt8
deriving DecidableEq
def Cs.zero : Cs := ⟨[], []⟩
noncomputable def F73 (a0 : Int) : Option Bool :=
 if 65 ≤ a0 then (some (decide (a0 ≤ 90))) else (some false)
set_option maxHeartbeats 8000000 in
set_option pp.deepTerms false in
set_option maxRecDepth 60000 in
theorem Tb {H : A0} {K : Am → A0 → Prop} (a0 : Int) {r : Bool} (h : F73 a0 = some r) (hK : K (.ret (.v (.bool r))) H) : A3 prog 73 [.v (.int .u8 a0)] H K := by
 refine A9 (N := 9) func73 (by kernel_rfl) rfl (by kernel_rfl) (by kernel_rfl) fun cb hcb hw hbd hnb => ?_; clear hbd hnb; subst hcb; unfold F73 at h; refine A1 fun cb hc1 => ?_; refine vcK ?_
 try simp -implicitDefEqProofs (disch := omega) [go_sem]
 subst hc1; refine A1 fun cb hc2 => ?_; refine vcK ?_
 try simp -implicitDefEqProofs (disch := omega) [go_sem]
 refine A6 h (by first | with_reducible rfl | (simp -implicitDefEqProofs (disch := omega) [go_sem] <;> omega)) ?_ ?_
 ·intro c3 h
  try simp (disch := omega) at c3
  try simp -implicitDefEqProofs (disch := omega) [go_sem]
  subst hc2; refine vcK ?_; simp -implicitDefEqProofs only [go_sem]; have er := Option.some.inj h; subst er
  try simp -implicitDefEqProofs (disch := omega) [go_sem]
  refine A2 (by exact A8 (Ext.refl hw)) (by first | with_reducible rfl | (simp -implicitDefEqProofs (disch := omega) [go_sem] <;> omega)) nbA hK
 ·intro c3 h
  try simp (disch := omega) at c3
  try simp -implicitDefEqProofs (disch := omega) [go_sem]
  subst hc2; refine vcK ?_; simp -implicitDefEqProofs only [go_sem]; have er := Option.some.inj h; subst er
  try simp -implicitDefEqProofs (disch := omega) [go_sem]
  refine A2 (by exact A8 (Ext.refl hw)) (by first | with_reducible rfl | (simp -implicitDefEqProofs (disch := omega) [go_sem] <;> omega)) nbA hK
noncomputable def Kb  : Option Bool :=
 some true
noncomputable def IE (a0 : List UInt8) (v6 : Int) : Option (Int ⊕ (Unit ⊕ Bool)) :=
 if v6 < (a0.length : Int) then (gd (0 ≤ v6 ∧ v6 < a0.length) ((F73 (((a0.getD v6.toNat 0).toNat : Int))).bind fun (x15 : Bool) => if ¬ (x15 = true) then (some (.inr (.inr false))) else (some (.inl (IntKind.i64.wrap (v6 + 1)))))) else (some (.inr (.inl ())))
noncomputable def F34 (a0 : List UInt8) : Option Bool :=
 gd ((a0.length : Int) ≤ 9223372036854775807) ((B3 (fun (s : Int) => IE a0 s) 0).bind fun y => Sum.elim (fun (e : Unit) => Kb) (fun (q : Bool) => some q) y)
set_option maxHeartbeats 8000000 in
set_option pp.deepTerms false in
set_option maxRecDepth 60000 in
theorem Tc {H : A0} {K : Am → A0 → Prop} (a0 : List UInt8) {r : Bool} (h : F34 a0 = some r) (hK : K (.ret (.v (.bool r))) H) : A3 prog 34 [.v (str a0), .v (.func (.func 73) #[] #[])] H K := by
 refine A9 (N := 19) func34 (by kernel_rfl) rfl (by kernel_rfl) (by kernel_rfl) fun cb hcb hw hbd hnb => ?_; clear hbd hnb; subst hcb; unfold F34 at h; refine A1 fun cb hc1 => ?_; refine vcK ?_
 try simp -implicitDefEqProofs (disch := omega) [go_sem]
 subst hc1; refine A1 fun cb hc2 => ?_; refine A1 fun cb hc3 => ?_; refine vcK ?_; obtain ⟨g4, h⟩ := A7.1 h
 try simp (disch := omega) at g4
 try simp -implicitDefEqProofs (disch := omega) [go_sem]
 refine D0 a0 rfl (by kernel_rfl) underlying9 underlying23 underlying5 (by first | with_reducible rfl | (simp -implicitDefEqProofs (disch := omega) [go_sem]; done) | rfl) (by first | omega | decide | (simp; omega)) ?_
 try simp -implicitDefEqProofs (disch := omega) [go_sem]
 subst hc3; obtain ⟨y5, hl5q, hk5⟩ := A4 h; refine AW (fun tm' H' => .inl () = y5 ∧ H = H') ?_ fun cb hc5 => ?_
 ·rintro tm5e H5e ⟨rfl, rfl⟩
  have h : Kb = some r := hk5; unfold Kb at h; simp -implicitDefEqProofs only [go_sem]; subst hc2; refine A1 fun cb hc7 => ?_; refine vcK ?_
  try simp -implicitDefEqProofs (disch := omega) [go_sem]
  subst hc7; refine vcK ?_; simp -implicitDefEqProofs only [go_sem]; have er := Option.some.inj h; subst er
  try simp -implicitDefEqProofs (disch := omega) [go_sem]
  refine A2 (by exact A8 (Ext.refl hw)) (by first | with_reducible rfl | (simp -implicitDefEqProofs (disch := omega) [go_sem] <;> omega)) nbA hK
 ·refine Af ?_; refine AN (fun (s : Int) tm' H' => H = H' ∧ tm' 1 = .v (.func (.func 73) #[] #[]) ∧ tm' 8 = .sl 1 (a0.map fun x => [.v (.int .u8 x.toNat)]) ∧ tm' 9 = .v (.int .i64 (a0.length : Int)) ∧ tm' 10 = .v (.int .i64 s)) hl5q ?_ ?_
  ·refine .same ⟨rfl, ?_, ?_, ?_, ?_⟩ <;> first | with_reducible rfl | with_reducible assumption | (simp -implicitDefEqProofs (disch := omega) [go_sem] <;> omega)
  ·rintro I5 hI5 v6 x5 tm5 H5 ⟨rfl, Br, Al, Bs, AQ⟩ h hret5
   replace h : IE a0 v6 = some x5 := h; unfold IE at h; refine A1 fun cb hc8 => ?_; refine vcK ?_
   try simp -implicitDefEqProofs (disch := omega) [go_sem, Br, Al, Bs, AQ]
   subst hc8; refine A1 fun cb hc9 => ?_; refine Aa h (by first | with_reducible rfl | (simp -implicitDefEqProofs (disch := omega) [go_sem, Br, Al, Bs, AQ] <;> omega)) rfl ?_ ?_
   ·intro c10 h
    try simp (disch := omega) at c10
    refine vcK ?_; simp -implicitDefEqProofs only [go_sem]; subst hc9; refine A1 fun cb hc11 => ?_; refine Af ?_; refine A1 fun cb hc12 => ?_; refine vcK ?_; obtain ⟨g13, h⟩ := A7.1 h
    try simp (disch := omega) at g13
    try simp -implicitDefEqProofs (disch := omega) [go_sem, Br, Al, Bs, AQ]
    subst hc12; refine A1 fun cb hc14 => ?_; refine vcK ?_
    try simp -implicitDefEqProofs (disch := omega) [go_sem, Br, Al, Bs, AQ]
    obtain ⟨x15, hx15, h⟩ := A4 h; refine A3.eqA (args' := [.v (.int .u8 (((a0.getD v6.toNat 0).toNat : Int)))]) (by first | with_reducible rfl | (simp -implicitDefEqProofs (disch := omega) [go_sem, Br, Al, Bs, AQ] <;> omega)) (Tb (((a0.getD v6.toNat 0).toNat : Int)) hx15 ?_)
    try simp -implicitDefEqProofs (disch := omega) [go_sem, Br, Al, Bs, AQ]
    subst hc14; refine Aa h (by first | with_reducible rfl | (simp -implicitDefEqProofs (disch := omega) [go_sem, Br, Al, Bs, AQ] <;> omega)) rfl ?_ ?_
    ·intro c16 h
     try simp (disch := omega) at c16
     refine A1 fun cb hc17 => ?_; refine vcK ?_
     try simp -implicitDefEqProofs (disch := omega) [go_sem, Br, Al, Bs, AQ]
     subst hc17; refine vcK ?_; simp -implicitDefEqProofs only [go_sem]; have e5 := Option.some.inj h; subst e5; have e5 := hret5 _ rfl; subst e5; replace h : some false = some r := hk5; have er := Option.some.inj h; subst er
     try simp -implicitDefEqProofs (disch := omega) [go_sem, Br, Al, Bs, AQ]
     refine A2 (by exact A8 (Ext.refl hw)) (by first | with_reducible rfl | (simp -implicitDefEqProofs (disch := omega) [go_sem, Br, Al, Bs, AQ] <;> omega)) nbA hK
    ·intro c16 h
     try simp (disch := omega) at c16
     refine vcK ?_; simp -implicitDefEqProofs only [go_sem]; subst hc11; refine vcK ?_
     try simp -implicitDefEqProofs (disch := omega) [go_sem, Br, Al, Bs, AQ]
     have e5 := Option.some.inj h; subst e5; refine Au hI5 (IntKind.i64.wrap (v6 + 1)) ?_; refine .same ⟨rfl, ?_, ?_, ?_, ?_⟩ <;> first | with_reducible rfl | with_reducible assumption | (simp -implicitDefEqProofs (disch := omega) [go_sem, Br, Al, Bs, AQ] <;> omega)
   ·intro c10 h
    try simp (disch := omega) at c10
    refine vcK ?_; simp -implicitDefEqProofs only [go_sem]; have e5 := Option.some.inj h; subst e5; have hy5 := hret5 _ rfl; refine hc5 _ _ ?_; refine .same ⟨hy5, rfl⟩
noncomputable def F45 (a0 : List UInt8) : Option Bool :=
 if 1 ≤ (a0.length : Int) then (if (a0.length : Int) ≤ 20 then ((F34 a0).bind fun (x3 : Bool) => some x3) else (some false)) else (some false)
set_option maxHeartbeats 8000000 in
set_option pp.deepTerms false in
set_option maxRecDepth 60000 in
theorem OO {H : A0} {K : Am → A0 → Prop} (a0 : List UInt8) {r : Bool} (h : F45 a0 = some r) (hK : K (.ret (.v (.bool r))) H) : A3 prog 45 [.v (str a0)] H K := by
 refine A9 (N := 15) func45 (by kernel_rfl) rfl (by kernel_rfl) (by kernel_rfl) fun cb hcb hw hbd hnb => ?_; clear hbd hnb; subst hcb; unfold F45 at h; refine A1 fun cb hc1 => ?_; refine vcK ?_
 try simp -implicitDefEqProofs (disch := omega) [go_sem]
 subst hc1; refine A1 fun cb hc2 => ?_; refine vcK ?_
 try simp -implicitDefEqProofs (disch := omega) [go_sem]
 refine A6 h (by first | with_reducible rfl | (simp -implicitDefEqProofs (disch := omega) [go_sem] <;> omega)) ?_ ?_
 ·intro c5 h
  try simp (disch := omega) at c5
  try simp -implicitDefEqProofs (disch := omega) [go_sem]
  refine A6 h (by first | with_reducible rfl | (simp -implicitDefEqProofs (disch := omega) [go_sem] <;> omega)) ?_ ?_
  ·intro c4 h
   try simp (disch := omega) at c4
   try simp -implicitDefEqProofs (disch := omega) [go_sem]
   obtain ⟨x3, hx3, h⟩ := A4 h; refine A3.eqA (args' := [.v (str a0), .v (.func (.func 73) #[] #[])]) (by first | with_reducible rfl | (simp -implicitDefEqProofs (disch := omega) [go_sem] <;> omega)) (Tc a0 hx3 ?_)
   try simp -implicitDefEqProofs (disch := omega) [go_sem]
   subst hc2; refine vcK ?_; simp -implicitDefEqProofs only [go_sem]; have er := Option.some.inj h; subst er
   try simp -implicitDefEqProofs (disch := omega) [go_sem]
   refine A2 (by exact A8 (Ext.refl hw)) (by first | with_reducible rfl | (simp -implicitDefEqProofs (disch := omega) [go_sem] <;> omega)) nbA hK
  ·intro c4 h
   try simp (disch := omega) at c4
   try simp -implicitDefEqProofs (disch := omega) [go_sem]
   subst hc2; refine vcK ?_; simp -implicitDefEqProofs only [go_sem]; have er := Option.some.inj h; subst er
   try simp -implicitDefEqProofs (disch := omega) [go_sem]
   refine A2 (by exact A8 (Ext.refl hw)) (by first | with_reducible rfl | (simp -implicitDefEqProofs (disch := omega) [go_sem] <;> omega)) nbA hK
 ·intro c5 h
  try simp (disch := omega) at c5
  try simp -implicitDefEqProofs (disch := omega) [go_sem]
  subst hc2; refine vcK ?_; simp -implicitDefEqProofs only [go_sem]; have er := Option.some.inj h; subst er
  try simp -implicitDefEqProofs (disch := omega) [go_sem]
  refine A2 (by exact A8 (Ext.refl hw)) (by first | with_reducible rfl | (simp -implicitDefEqProofs (disch := omega) [go_sem] <;> omega)) nbA hK
noncomputable def F74 (a0 : Int) : Option Bool :=
 if 33 ≤ a0 then (some (decide (a0 ≤ 126))) else (some false)
set_option maxHeartbeats 8000000 in
set_option pp.deepTerms false in
set_option maxRecDepth 60000 in
theorem Td {H : A0} {K : Am → A0 → Prop} (a0 : Int) {r : Bool} (h : F74 a0 = some r) (hK : K (.ret (.v (.bool r))) H) : A3 prog 74 [.v (.int .u8 a0)] H K := by
 refine A9 (N := 9) func74 (by kernel_rfl) rfl (by kernel_rfl) (by kernel_rfl) fun cb hcb hw hbd hnb => ?_; clear hbd hnb; subst hcb; unfold F74 at h; refine A1 fun cb hc1 => ?_; refine vcK ?_
 try simp -implicitDefEqProofs (disch := omega) [go_sem]
 subst hc1; refine A1 fun cb hc2 => ?_; refine vcK ?_
 try simp -implicitDefEqProofs (disch := omega) [go_sem]
 refine A6 h (by first | with_reducible rfl | (simp -implicitDefEqProofs (disch := omega) [go_sem] <;> omega)) ?_ ?_
 ·intro c3 h
  try simp (disch := omega) at c3
  try simp -implicitDefEqProofs (disch := omega) [go_sem]
  subst hc2; refine vcK ?_; simp -implicitDefEqProofs only [go_sem]; have er := Option.some.inj h; subst er
  try simp -implicitDefEqProofs (disch := omega) [go_sem]
  refine A2 (by exact A8 (Ext.refl hw)) (by first | with_reducible rfl | (simp -implicitDefEqProofs (disch := omega) [go_sem] <;> omega)) nbA hK
 ·intro c3 h
  try simp (disch := omega) at c3
  try simp -implicitDefEqProofs (disch := omega) [go_sem]
  subst hc2; refine vcK ?_; simp -implicitDefEqProofs only [go_sem]; have er := Option.some.inj h; subst er
  try simp -implicitDefEqProofs (disch := omega) [go_sem]
  refine A2 (by exact A8 (Ext.refl hw)) (by first | with_reducible rfl | (simp -implicitDefEqProofs (disch := omega) [go_sem] <;> omega)) nbA hK
noncomputable def G6  : Option Bool :=
 some true
noncomputable def Ex (a0 : List UInt8) (v6 : Int) : Option (Int ⊕ (Unit ⊕ Bool)) :=
 if v6 < (a0.length : Int) then (gd (0 ≤ v6 ∧ v6 < a0.length) ((F74 (((a0.getD v6.toNat 0).toNat : Int))).bind fun (x15 : Bool) => if ¬ (x15 = true) then (some (.inr (.inr false))) else (some (.inl (IntKind.i64.wrap (v6 + 1)))))) else (some (.inr (.inl ())))
noncomputable def La (a0 : List UInt8) : Option Bool :=
 gd ((a0.length : Int) ≤ 9223372036854775807) ((B3 (fun (s : Int) => Ex a0 s) 0).bind fun y => Sum.elim (fun (e : Unit) => G6) (fun (q : Bool) => some q) y)
set_option maxHeartbeats 8000000 in
set_option pp.deepTerms false in
set_option maxRecDepth 60000 in
theorem OP {H : A0} {K : Am → A0 → Prop} (a0 : List UInt8) {r : Bool} (h : La a0 = some r) (hK : K (.ret (.v (.bool r))) H) : A3 prog 34 [.v (str a0), .v (.func (.func 74) #[] #[])] H K := by
 refine A9 (N := 19) func34 (by kernel_rfl) rfl (by kernel_rfl) (by kernel_rfl) fun cb hcb hw hbd hnb => ?_; clear hbd hnb; subst hcb; unfold La at h; refine A1 fun cb hc1 => ?_; refine vcK ?_
 try simp -implicitDefEqProofs (disch := omega) [go_sem]
 subst hc1; refine A1 fun cb hc2 => ?_; refine A1 fun cb hc3 => ?_; refine vcK ?_; obtain ⟨g4, h⟩ := A7.1 h
 try simp (disch := omega) at g4
 try simp -implicitDefEqProofs (disch := omega) [go_sem]
 refine D0 a0 rfl (by kernel_rfl) underlying9 underlying23 underlying5 (by first | with_reducible rfl | (simp -implicitDefEqProofs (disch := omega) [go_sem]; done) | rfl) (by first | omega | decide | (simp; omega)) ?_
 try simp -implicitDefEqProofs (disch := omega) [go_sem]
 subst hc3; obtain ⟨y5, hl5q, hk5⟩ := A4 h; refine AW (fun tm' H' => .inl () = y5 ∧ H = H') ?_ fun cb hc5 => ?_
 ·rintro tm5e H5e ⟨rfl, rfl⟩
  have h : G6 = some r := hk5; unfold G6 at h; simp -implicitDefEqProofs only [go_sem]; subst hc2; refine A1 fun cb hc7 => ?_; refine vcK ?_
  try simp -implicitDefEqProofs (disch := omega) [go_sem]
  subst hc7; refine vcK ?_; simp -implicitDefEqProofs only [go_sem]; have er := Option.some.inj h; subst er
  try simp -implicitDefEqProofs (disch := omega) [go_sem]
  refine A2 (by exact A8 (Ext.refl hw)) (by first | with_reducible rfl | (simp -implicitDefEqProofs (disch := omega) [go_sem] <;> omega)) nbA hK
 ·refine Af ?_; refine AN (fun (s : Int) tm' H' => H = H' ∧ tm' 1 = .v (.func (.func 74) #[] #[]) ∧ tm' 8 = .sl 1 (a0.map fun x => [.v (.int .u8 x.toNat)]) ∧ tm' 9 = .v (.int .i64 (a0.length : Int)) ∧ tm' 10 = .v (.int .i64 s)) hl5q ?_ ?_
  ·refine .same ⟨rfl, ?_, ?_, ?_, ?_⟩ <;> first | with_reducible rfl | with_reducible assumption | (simp -implicitDefEqProofs (disch := omega) [go_sem] <;> omega)
  ·rintro I5 hI5 v6 x5 tm5 H5 ⟨rfl, Br, Al, Bs, AQ⟩ h hret5
   replace h : Ex a0 v6 = some x5 := h; unfold Ex at h; refine A1 fun cb hc8 => ?_; refine vcK ?_
   try simp -implicitDefEqProofs (disch := omega) [go_sem, Br, Al, Bs, AQ]
   subst hc8; refine A1 fun cb hc9 => ?_; refine Aa h (by first | with_reducible rfl | (simp -implicitDefEqProofs (disch := omega) [go_sem, Br, Al, Bs, AQ] <;> omega)) rfl ?_ ?_
   ·intro c10 h
    try simp (disch := omega) at c10
    refine vcK ?_; simp -implicitDefEqProofs only [go_sem]; subst hc9; refine A1 fun cb hc11 => ?_; refine Af ?_; refine A1 fun cb hc12 => ?_; refine vcK ?_; obtain ⟨g13, h⟩ := A7.1 h
    try simp (disch := omega) at g13
    try simp -implicitDefEqProofs (disch := omega) [go_sem, Br, Al, Bs, AQ]
    subst hc12; refine A1 fun cb hc14 => ?_; refine vcK ?_
    try simp -implicitDefEqProofs (disch := omega) [go_sem, Br, Al, Bs, AQ]
    obtain ⟨x15, hx15, h⟩ := A4 h; refine A3.eqA (args' := [.v (.int .u8 (((a0.getD v6.toNat 0).toNat : Int)))]) (by first | with_reducible rfl | (simp -implicitDefEqProofs (disch := omega) [go_sem, Br, Al, Bs, AQ] <;> omega)) (Td (((a0.getD v6.toNat 0).toNat : Int)) hx15 ?_)
    try simp -implicitDefEqProofs (disch := omega) [go_sem, Br, Al, Bs, AQ]
    subst hc14; refine Aa h (by first | with_reducible rfl | (simp -implicitDefEqProofs (disch := omega) [go_sem, Br, Al, Bs, AQ] <;> omega)) rfl ?_ ?_
    ·intro c16 h
     try simp (disch := omega) at c16
     refine A1 fun cb hc17 => ?_; refine vcK ?_
     try simp -implicitDefEqProofs (disch := omega) [go_sem, Br, Al, Bs, AQ]
     subst hc17; refine vcK ?_; simp -implicitDefEqProofs only [go_sem]; have e5 := Option.some.inj h; subst e5; have e5 := hret5 _ rfl; subst e5; replace h : some false = some r := hk5; have er := Option.some.inj h; subst er
     try simp -implicitDefEqProofs (disch := omega) [go_sem, Br, Al, Bs, AQ]
     refine A2 (by exact A8 (Ext.refl hw)) (by first | with_reducible rfl | (simp -implicitDefEqProofs (disch := omega) [go_sem, Br, Al, Bs, AQ] <;> omega)) nbA hK
    ·intro c16 h
     try simp (disch := omega) at c16
     refine vcK ?_; simp -implicitDefEqProofs only [go_sem]; subst hc11; refine vcK ?_
     try simp -implicitDefEqProofs (disch := omega) [go_sem, Br, Al, Bs, AQ]
     have e5 := Option.some.inj h; subst e5; refine Au hI5 (IntKind.i64.wrap (v6 + 1)) ?_; refine .same ⟨rfl, ?_, ?_, ?_, ?_⟩ <;> first | with_reducible rfl | with_reducible assumption | (simp -implicitDefEqProofs (disch := omega) [go_sem, Br, Al, Bs, AQ] <;> omega)
   ·intro c10 h
    try simp (disch := omega) at c10
    refine vcK ?_; simp -implicitDefEqProofs only [go_sem]; have e5 := Option.some.inj h; subst e5; have hy5 := hret5 _ rfl; refine hc5 _ _ ?_; refine .same ⟨hy5, rfl⟩
noncomputable def F46 (a0 : List UInt8) : Option Bool :=
 if 1 ≤ (a0.length : Int) then (if (a0.length : Int) ≤ 200 then (gd (0 < a0.length) (if (((a0.getD 0 0).toNat : Int)) = 47 then ((La a0).bind fun (x4 : Bool) => some x4) else (some false))) else (some false)) else (some false)
set_option maxHeartbeats 8000000 in
set_option pp.deepTerms false in
set_option maxRecDepth 60000 in
theorem OQ {H : A0} {K : Am → A0 → Prop} (a0 : List UInt8) {r : Bool} (h : F46 a0 = some r) (hK : K (.ret (.v (.bool r))) H) : A3 prog 46 [.v (str a0)] H K := by
 refine A9 (N := 20) func46 (by kernel_rfl) rfl (by kernel_rfl) (by kernel_rfl) fun cb hcb hw hbd hnb => ?_; clear hbd hnb; subst hcb; unfold F46 at h; refine A1 fun cb hc1 => ?_; refine vcK ?_
 try simp -implicitDefEqProofs (disch := omega) [go_sem]
 subst hc1; refine A1 fun cb hc2 => ?_; refine vcK ?_
 try simp -implicitDefEqProofs (disch := omega) [go_sem]
 refine A6 h (by first | with_reducible rfl | (simp -implicitDefEqProofs (disch := omega) [go_sem] <;> omega)) ?_ ?_
 ·intro c7 h
  try simp (disch := omega) at c7
  try simp -implicitDefEqProofs (disch := omega) [go_sem]
  refine A6 h (by first | with_reducible rfl | (simp -implicitDefEqProofs (disch := omega) [go_sem] <;> omega)) ?_ ?_
  ·intro c6 h
   try simp (disch := omega) at c6
   obtain ⟨g3, h⟩ := A7.1 h
   try simp (disch := omega) at g3
   try simp -implicitDefEqProofs (disch := omega) [go_sem]
   refine A6 h (by first | with_reducible rfl | (simp -implicitDefEqProofs (disch := omega) [go_sem] <;> omega)) ?_ ?_
   ·intro c5 h
    try simp (disch := omega) at c5
    try simp -implicitDefEqProofs (disch := omega) [go_sem]
    obtain ⟨x4, hx4, h⟩ := A4 h; refine A3.eqA (args' := [.v (str a0), .v (.func (.func 74) #[] #[])]) (by first | with_reducible rfl | (simp -implicitDefEqProofs (disch := omega) [go_sem] <;> omega)) (OP a0 hx4 ?_)
    try simp -implicitDefEqProofs (disch := omega) [go_sem]
    subst hc2; refine vcK ?_; simp -implicitDefEqProofs only [go_sem]; have er := Option.some.inj h; subst er
    try simp -implicitDefEqProofs (disch := omega) [go_sem]
    refine A2 (by exact A8 (Ext.refl hw)) (by first | with_reducible rfl | (simp -implicitDefEqProofs (disch := omega) [go_sem] <;> omega)) nbA hK
   ·intro c5 h
    try simp (disch := omega) at c5
    try simp -implicitDefEqProofs (disch := omega) [go_sem]
    subst hc2; refine vcK ?_; simp -implicitDefEqProofs only [go_sem]; have er := Option.some.inj h; subst er
    try simp -implicitDefEqProofs (disch := omega) [go_sem]
    refine A2 (by exact A8 (Ext.refl hw)) (by first | with_reducible rfl | (simp -implicitDefEqProofs (disch := omega) [go_sem] <;> omega)) nbA hK
  ·intro c6 h
   try simp (disch := omega) at c6
   try simp -implicitDefEqProofs (disch := omega) [go_sem]
   subst hc2; refine vcK ?_; simp -implicitDefEqProofs only [go_sem]; have er := Option.some.inj h; subst er
   try simp -implicitDefEqProofs (disch := omega) [go_sem]
   refine A2 (by exact A8 (Ext.refl hw)) (by first | with_reducible rfl | (simp -implicitDefEqProofs (disch := omega) [go_sem] <;> omega)) nbA hK
 ·intro c7 h
  try simp (disch := omega) at c7
  try simp -implicitDefEqProofs (disch := omega) [go_sem]
  subst hc2; refine vcK ?_; simp -implicitDefEqProofs only [go_sem]; have er := Option.some.inj h; subst er
  try simp -implicitDefEqProofs (disch := omega) [go_sem]
  refine A2 (by exact A8 (Ext.refl hw)) (by first | with_reducible rfl | (simp -implicitDefEqProofs (disch := omega) [go_sem] <;> omega)) nbA hK
noncomputable def J4 (a0 : Int) (a1 : Int) (a2 : Int) : Option Bool :=
 if a1 ≤ a0 then (some (decide (a0 ≤ a2))) else (some false)
set_option maxHeartbeats 8000000 in
set_option pp.deepTerms false in
set_option maxRecDepth 60000 in
theorem Kc {H : A0} {K : Am → A0 → Prop} (a0 : Int) (a1 : Int) (a2 : Int) {r : Bool} (h : J4 a0 a1 a2 = some r) (hK : K (.ret (.v (.bool r))) H) : A3 prog 133 [.v (.int .u8 a0), .v (.int .u8 a1), .v (.int .u8 a2)] H K := by
 refine A9 (N := 15) func133 (by kernel_rfl) rfl (by kernel_rfl) (by kernel_rfl) fun cb hcb hw hbd hnb => ?_; clear hbd hnb; subst hcb; unfold J4 at h; refine A1 fun cb hc1 => ?_; refine vcK ?_
 try simp -implicitDefEqProofs (disch := omega) [go_sem]
 subst hc1; refine A1 fun cb hc2 => ?_; refine vcK ?_
 try simp -implicitDefEqProofs (disch := omega) [go_sem]
 refine A6 h (by first | with_reducible rfl | (simp -implicitDefEqProofs (disch := omega) [go_sem] <;> omega)) ?_ ?_
 ·intro c3 h
  try simp (disch := omega) at c3
  try simp -implicitDefEqProofs (disch := omega) [go_sem]
  subst hc2; refine vcK ?_; simp -implicitDefEqProofs only [go_sem]; have er := Option.some.inj h; subst er
  try simp -implicitDefEqProofs (disch := omega) [go_sem]
  refine A2 (by exact A8 (Ext.refl hw)) (by first | with_reducible rfl | (simp -implicitDefEqProofs (disch := omega) [go_sem] <;> omega)) nbA hK
 ·intro c3 h
  try simp (disch := omega) at c3
  try simp -implicitDefEqProofs (disch := omega) [go_sem]
  subst hc2; refine vcK ?_; simp -implicitDefEqProofs only [go_sem]; have er := Option.some.inj h; subst er
  try simp -implicitDefEqProofs (disch := omega) [go_sem]
  refine A2 (by exact A8 (Ext.refl hw)) (by first | with_reducible rfl | (simp -implicitDefEqProofs (disch := omega) [go_sem] <;> omega)) nbA hK
noncomputable def G7 (a0 : List UInt8) : Option Bool :=
 if 1 ≤ (a0.length : Int) then (some (decide ((a0.length : Int) ≤ 64))) else (some false)
noncomputable def G8 (a0 : List UInt8) (v6 : Int) : Option (Int ⊕ (Unit ⊕ Bool)) :=
 if v6 < (a0.length : Int) then (gd (0 ≤ v6 ∧ v6 < a0.length) ((J4 (((a0.getD v6.toNat 0).toNat : Int)) 97 122).bind fun (x16 : Bool) => if ¬ (x16 = true) then ((J4 (((a0.getD v6.toNat 0).toNat : Int)) 65 90).bind fun (x17 : Bool) => if ¬ (x17 = true) then (if v6 = 0 then (some (.inr (.inr false))) else ((J4 (((a0.getD v6.toNat 0).toNat : Int)) 48 57).bind fun (x19 : Bool) => if ¬ (x19 = true) then (if ¬ (((a0.getD v6.toNat 0).toNat : Int)) = 45 then (some (.inr (.inr false))) else (some (.inl (IntKind.i64.wrap (v6 + 1))))) else (some (.inl (IntKind.i64.wrap (v6 + 1)))))) else (some (.inl (IntKind.i64.wrap (v6 + 1))))) else (some (.inl (IntKind.i64.wrap (v6 + 1)))))) else (some (.inr (.inl ())))
noncomputable def OR (a0 : List UInt8) : Option Bool :=
 gd ((a0.length : Int) ≤ 9223372036854775807) ((B3 (fun (s : Int) => G8 a0 s) 0).bind fun y => Sum.elim (fun (e : Unit) => G7 a0) (fun (q : Bool) => some q) y)
set_option maxHeartbeats 8000000 in
set_option pp.deepTerms false in
set_option maxRecDepth 60000 in
theorem QJ {H : A0} {K : Am → A0 → Prop} (a0 : List UInt8) {r : Bool} (h : OR a0 = some r) (hK : K (.ret (.v (.bool r))) H) : A3 prog 105 [.v (str a0)] H K := by
 refine A9 (N := 43) func105 (by kernel_rfl) rfl (by kernel_rfl) (by kernel_rfl) fun cb hcb hw hbd hnb => ?_; clear hbd hnb; subst hcb; unfold OR at h; refine A1 fun cb hc1 => ?_; refine vcK ?_
 try simp -implicitDefEqProofs (disch := omega) [go_sem]
 subst hc1; refine A1 fun cb hc2 => ?_; refine A1 fun cb hc3 => ?_; refine vcK ?_; obtain ⟨g4, h⟩ := A7.1 h
 try simp (disch := omega) at g4
 try simp -implicitDefEqProofs (disch := omega) [go_sem]
 refine D0 a0 rfl (by kernel_rfl) underlying9 underlying23 underlying5 (by first | with_reducible rfl | (simp -implicitDefEqProofs (disch := omega) [go_sem]; done) | rfl) (by first | omega | decide | (simp; omega)) ?_
 try simp -implicitDefEqProofs (disch := omega) [go_sem]
 subst hc3; obtain ⟨y5, hl5q, hk5⟩ := A4 h; refine AW (fun tm' H' => .inl () = y5 ∧ H = H' ∧ tm' 0 = .v (str a0)) ?_ fun cb hc5 => ?_
 ·rintro tm5e H5e ⟨rfl, rfl, t0_5e⟩
  have h : G7 a0 = some r := hk5; unfold G7 at h; simp -implicitDefEqProofs only [go_sem]; subst hc2; refine A1 fun cb hc7 => ?_; refine vcK ?_
  try simp -implicitDefEqProofs (disch := omega) [go_sem, t0_5e]
  refine A6 h (by first | with_reducible rfl | (simp -implicitDefEqProofs (disch := omega) [go_sem, t0_5e] <;> omega)) ?_ ?_
  ·intro c8 h
   try simp (disch := omega) at c8
   try simp -implicitDefEqProofs (disch := omega) [go_sem, t0_5e]
   subst hc7; refine vcK ?_; simp -implicitDefEqProofs only [go_sem]; have er := Option.some.inj h; subst er
   try simp -implicitDefEqProofs (disch := omega) [go_sem, t0_5e]
   refine A2 (by exact A8 (Ext.refl hw)) (by first | with_reducible rfl | (simp -implicitDefEqProofs (disch := omega) [go_sem, t0_5e] <;> omega)) nbA hK
  ·intro c8 h
   try simp (disch := omega) at c8
   try simp -implicitDefEqProofs (disch := omega) [go_sem, t0_5e]
   subst hc7; refine vcK ?_; simp -implicitDefEqProofs only [go_sem]; have er := Option.some.inj h; subst er
   try simp -implicitDefEqProofs (disch := omega) [go_sem, t0_5e]
   refine A2 (by exact A8 (Ext.refl hw)) (by first | with_reducible rfl | (simp -implicitDefEqProofs (disch := omega) [go_sem, t0_5e] <;> omega)) nbA hK
 ·refine Af ?_; refine AN (fun (s : Int) tm' H' => H = H' ∧ tm' 0 = .v (str a0) ∧ tm' 6 = .sl 1 (a0.map fun x => [.v (.int .u8 x.toNat)]) ∧ tm' 7 = .v (.int .i64 (a0.length : Int)) ∧ tm' 8 = .v (.int .i64 s)) hl5q ?_ ?_
  ·refine .same ⟨rfl, ?_, ?_, ?_, ?_⟩ <;> first | with_reducible rfl | with_reducible assumption | (simp -implicitDefEqProofs (disch := omega) [go_sem] <;> omega)
  ·rintro I5 hI5 v6 x5 tm5 H5 ⟨rfl, B8, AY, Av, Al⟩ h hret5
   replace h : G8 a0 v6 = some x5 := h; unfold G8 at h; refine A1 fun cb hc9 => ?_; refine vcK ?_
   try simp -implicitDefEqProofs (disch := omega) [go_sem, B8, AY, Av, Al]
   subst hc9; refine A1 fun cb hc10 => ?_; refine Aa h (by first | with_reducible rfl | (simp -implicitDefEqProofs (disch := omega) [go_sem, B8, AY, Av, Al] <;> omega)) rfl ?_ ?_
   ·intro c11 h
    try simp (disch := omega) at c11
    refine vcK ?_; simp -implicitDefEqProofs only [go_sem]; subst hc10; refine A1 fun cb hc12 => ?_; refine Af ?_; refine A1 fun cb hc13 => ?_; refine vcK ?_; obtain ⟨g14, h⟩ := A7.1 h
    try simp (disch := omega) at g14
    try simp -implicitDefEqProofs (disch := omega) [go_sem, B8, AY, Av, Al]
    subst hc13; refine A1 fun cb hc15 => ?_; refine vcK ?_
    try simp -implicitDefEqProofs (disch := omega) [go_sem, B8, AY, Av, Al]
    obtain ⟨x16, hx16, h⟩ := A4 h; refine A3.eqA (args' := [.v (.int .u8 (((a0.getD v6.toNat 0).toNat : Int))), .v (.int .u8 97), .v (.int .u8 122)]) (by first | with_reducible rfl | (simp -implicitDefEqProofs (disch := omega) [go_sem, B8, AY, Av, Al] <;> omega)) (Kc (((a0.getD v6.toNat 0).toNat : Int)) 97 122 hx16 ?_)
    try simp -implicitDefEqProofs (disch := omega) [go_sem, B8, AY, Av, Al]
    refine A6 h (by first | with_reducible rfl | (simp -implicitDefEqProofs (disch := omega) [go_sem, B8, AY, Av, Al] <;> omega)) ?_ ?_
    ·intro c25 h
     try simp (disch := omega) at c25
     try simp -implicitDefEqProofs (disch := omega) [go_sem, B8, AY, Av, Al]
     obtain ⟨x17, hx17, h⟩ := A4 h; refine A3.eqA (args' := [.v (.int .u8 (((a0.getD v6.toNat 0).toNat : Int))), .v (.int .u8 65), .v (.int .u8 90)]) (by first | with_reducible rfl | (simp -implicitDefEqProofs (disch := omega) [go_sem, B8, AY, Av, Al] <;> omega)) (Kc (((a0.getD v6.toNat 0).toNat : Int)) 65 90 hx17 ?_)
     try simp -implicitDefEqProofs (disch := omega) [go_sem, B8, AY, Av, Al]
     refine A6 h (by first | with_reducible rfl | (simp -implicitDefEqProofs (disch := omega) [go_sem, B8, AY, Av, Al] <;> omega)) ?_ ?_
     ·intro c24 h
      try simp (disch := omega) at c24
      try simp -implicitDefEqProofs (disch := omega) [go_sem, B8, AY, Av, Al]
      refine A6 h (by first | with_reducible rfl | (simp -implicitDefEqProofs (disch := omega) [go_sem, B8, AY, Av, Al] <;> omega)) ?_ ?_
      ·intro c23 h
       try simp (disch := omega) at c23
       try simp -implicitDefEqProofs (disch := omega) [go_sem, B8, AY, Av, Al]
       subst hc15; refine Aw (by first | with_reducible rfl | (simp -implicitDefEqProofs (disch := omega) [go_sem, B8, AY, Av, Al] <;> omega)) rfl ?_; refine A1 fun cb hc18 => ?_; refine vcK ?_
       try simp -implicitDefEqProofs (disch := omega) [go_sem, B8, AY, Av, Al]
       subst hc18; refine vcK ?_; simp -implicitDefEqProofs only [go_sem]; have e5 := Option.some.inj h; subst e5; have e5 := hret5 _ rfl; subst e5; replace h : some false = some r := hk5; have er := Option.some.inj h; subst er
       try simp -implicitDefEqProofs (disch := omega) [go_sem, B8, AY, Av, Al]
       refine A2 (by exact A8 (Ext.refl hw)) (by first | with_reducible rfl | (simp -implicitDefEqProofs (disch := omega) [go_sem, B8, AY, Av, Al] <;> omega)) nbA hK
      ·intro c23 h
       try simp (disch := omega) at c23
       try simp -implicitDefEqProofs (disch := omega) [go_sem, B8, AY, Av, Al]
       obtain ⟨x19, hx19, h⟩ := A4 h; refine A3.eqA (args' := [.v (.int .u8 (((a0.getD v6.toNat 0).toNat : Int))), .v (.int .u8 48), .v (.int .u8 57)]) (by first | with_reducible rfl | (simp -implicitDefEqProofs (disch := omega) [go_sem, B8, AY, Av, Al] <;> omega)) (Kc (((a0.getD v6.toNat 0).toNat : Int)) 48 57 hx19 ?_)
       try simp -implicitDefEqProofs (disch := omega) [go_sem, B8, AY, Av, Al]
       refine A6 h (by first | with_reducible rfl | (simp -implicitDefEqProofs (disch := omega) [go_sem, B8, AY, Av, Al] <;> omega)) ?_ ?_
       ·intro c22 h
        try simp (disch := omega) at c22
        try simp -implicitDefEqProofs (disch := omega) [go_sem, B8, AY, Av, Al]
        subst hc15; refine Aa h (by first | with_reducible rfl | (simp -implicitDefEqProofs (disch := omega) [go_sem, B8, AY, Av, Al] <;> omega)) rfl ?_ ?_
        ·intro c20 h
         try simp (disch := omega) at c20
         refine A1 fun cb hc21 => ?_; refine vcK ?_
         try simp -implicitDefEqProofs (disch := omega) [go_sem, B8, AY, Av, Al]
         subst hc21; refine vcK ?_; simp -implicitDefEqProofs only [go_sem]; have e5 := Option.some.inj h; subst e5; have e5 := hret5 _ rfl; subst e5; replace h : some false = some r := hk5; have er := Option.some.inj h; subst er
         try simp -implicitDefEqProofs (disch := omega) [go_sem, B8, AY, Av, Al]
         refine A2 (by exact A8 (Ext.refl hw)) (by first | with_reducible rfl | (simp -implicitDefEqProofs (disch := omega) [go_sem, B8, AY, Av, Al] <;> omega)) nbA hK
        ·intro c20 h
         try simp (disch := omega) at c20
         refine vcK ?_; simp -implicitDefEqProofs only [go_sem]; subst hc12; refine vcK ?_
         try simp -implicitDefEqProofs (disch := omega) [go_sem, B8, AY, Av, Al]
         have e5 := Option.some.inj h; subst e5; refine Au hI5 (IntKind.i64.wrap (v6 + 1)) ?_; refine .same ⟨rfl, ?_, ?_, ?_, ?_⟩ <;> first | with_reducible rfl | with_reducible assumption | (simp -implicitDefEqProofs (disch := omega) [go_sem, B8, AY, Av, Al] <;> omega)
       ·intro c22 h
        try simp (disch := omega) at c22
        try simp -implicitDefEqProofs (disch := omega) [go_sem, B8, AY, Av, Al]
        subst hc15; refine BN (by first | with_reducible rfl | (simp -implicitDefEqProofs (disch := omega) [go_sem, B8, AY, Av, Al] <;> omega)) rfl ?_; refine vcK ?_; simp -implicitDefEqProofs only [go_sem]; subst hc12; refine vcK ?_
        try simp -implicitDefEqProofs (disch := omega) [go_sem, B8, AY, Av, Al]
        have e5 := Option.some.inj h; subst e5; refine Au hI5 (IntKind.i64.wrap (v6 + 1)) ?_; refine .same ⟨rfl, ?_, ?_, ?_, ?_⟩ <;> first | with_reducible rfl | with_reducible assumption | (simp -implicitDefEqProofs (disch := omega) [go_sem, B8, AY, Av, Al] <;> omega)
     ·intro c24 h
      try simp (disch := omega) at c24
      try simp -implicitDefEqProofs (disch := omega) [go_sem, B8, AY, Av, Al]
      subst hc15; refine BN (by first | with_reducible rfl | (simp -implicitDefEqProofs (disch := omega) [go_sem, B8, AY, Av, Al] <;> omega)) rfl ?_; refine vcK ?_; simp -implicitDefEqProofs only [go_sem]; subst hc12; refine vcK ?_
      try simp -implicitDefEqProofs (disch := omega) [go_sem, B8, AY, Av, Al]
      have e5 := Option.some.inj h; subst e5; refine Au hI5 (IntKind.i64.wrap (v6 + 1)) ?_; refine .same ⟨rfl, ?_, ?_, ?_, ?_⟩ <;> first | with_reducible rfl | with_reducible assumption | (simp -implicitDefEqProofs (disch := omega) [go_sem, B8, AY, Av, Al] <;> omega)
    ·intro c25 h
     try simp (disch := omega) at c25
     try simp -implicitDefEqProofs (disch := omega) [go_sem, B8, AY, Av, Al]
     subst hc15; refine BN (by first | with_reducible rfl | (simp -implicitDefEqProofs (disch := omega) [go_sem, B8, AY, Av, Al] <;> omega)) rfl ?_; refine vcK ?_; simp -implicitDefEqProofs only [go_sem]; subst hc12; refine vcK ?_
     try simp -implicitDefEqProofs (disch := omega) [go_sem, B8, AY, Av, Al]
     have e5 := Option.some.inj h; subst e5; refine Au hI5 (IntKind.i64.wrap (v6 + 1)) ?_; refine .same ⟨rfl, ?_, ?_, ?_, ?_⟩ <;> first | with_reducible rfl | with_reducible assumption | (simp -implicitDefEqProofs (disch := omega) [go_sem, B8, AY, Av, Al] <;> omega)
   ·intro c11 h
    try simp (disch := omega) at c11
    refine vcK ?_; simp -implicitDefEqProofs only [go_sem]; have e5 := Option.some.inj h; subst e5; have hy5 := hret5 _ rfl; refine hc5 _ _ ?_; refine .same ⟨hy5, rfl, by first | with_reducible rfl | with_reducible assumption | (simp -implicitDefEqProofs (disch := omega) [go_sem, B8, AY, Av, Al] <;> omega)⟩
noncomputable def OS (a0 : Cs) : Option Bool :=
 (OR a0.fType).bind fun (x3 : Bool) => if x3 = true then ((F57 a0.fType).bind fun (x4 : (List UInt8)) => if x4 = a0.fType then (if 1 ≤ (a0.A5.length : Int) then (some (decide ((a0.A5.length : Int) ≤ 200))) else (some false)) else (some false)) else (some false)
set_option maxHeartbeats 8000000 in
set_option pp.deepTerms false in
set_option maxRecDepth 60000 in
theorem QK {H : A0} {K : Am → A0 → Prop} (a0 : Cs) {r : Bool} (h : OS a0 = some r) (hK : K (.ret (.v (.bool r))) H) : A3 prog 104 [.ag ([.v (str a0.fType), .v (str a0.A5)])] H K := by
 refine A9 (N := 26) func104 (by kernel_rfl) rfl (by kernel_rfl) (by kernel_rfl) fun cb hcb hw hbd hnb => ?_; clear hbd hnb; subst hcb; unfold OS at h; refine A1 fun cb hc1 => ?_; refine vcK ?_
 try simp -implicitDefEqProofs (disch := omega) [go_sem]
 subst hc1; refine A1 fun cb hc2 => ?_; refine BX [2, 6] [0, 1, 2, 3, 4, 5, 6, 7, 8, 9, 10, 11, 12, 13, 14, 15, 16, 17, 18, 19, 20, 21, 22, 23] (by kernel_rfl) (by kernel_rfl) (fun _ _ _ _ h => h) ?_
 try simp -implicitDefEqProofs (disch := omega) [go_sem]
 obtain ⟨x3, hx3, h⟩ := A4 h; refine Cu.mk _ (fun _ _ hK => A3.eqA (args' := [.v (str a0.fType)]) (by first | with_reducible rfl | (simp -implicitDefEqProofs (disch := omega) [go_sem] <;> omega)) (QJ a0.fType hx3 hK)) ?_
 try simp -implicitDefEqProofs (disch := omega) [go_sem]
 refine A6 h (by first | with_reducible rfl | (simp -implicitDefEqProofs (disch := omega) [go_sem] <;> omega)) ?_ ?_
 ·intro c7 h
  try simp (disch := omega) at c7
  try simp -implicitDefEqProofs (disch := omega) [go_sem]
  obtain ⟨x4, hx4, h⟩ := A4 h; refine Cu.mk _ (fun _ _ hK => A3.eqA (args' := [.v (str a0.fType)]) (by first | with_reducible rfl | (simp -implicitDefEqProofs (disch := omega) [go_sem] <;> omega)) (Fw a0.fType hx4 hK)) ?_
  try simp -implicitDefEqProofs (disch := omega) [go_sem]
  refine A6 h (by first | with_reducible rfl | (simp -implicitDefEqProofs (disch := omega) [go_sem] <;> omega)) ?_ ?_
  ·intro c6 h
   try simp (disch := omega) at c6
   try simp -implicitDefEqProofs (disch := omega) [go_sem]
   refine A6 h (by first | with_reducible rfl | (simp -implicitDefEqProofs (disch := omega) [go_sem] <;> omega)) ?_ ?_
   ·intro c5 h
    try simp (disch := omega) at c5
    try simp -implicitDefEqProofs (disch := omega) [go_sem]
    subst hc2; refine vcK ?_; simp -implicitDefEqProofs only [go_sem]; have er := Option.some.inj h; subst er
    try simp -implicitDefEqProofs (disch := omega) [go_sem]
    refine A2 (by exact A8 (Ext.refl hw)) (by first | with_reducible rfl | (simp -implicitDefEqProofs (disch := omega) [go_sem] <;> omega)) nbA hK
   ·intro c5 h
    try simp (disch := omega) at c5
    try simp -implicitDefEqProofs (disch := omega) [go_sem]
    subst hc2; refine vcK ?_; simp -implicitDefEqProofs only [go_sem]; have er := Option.some.inj h; subst er
    try simp -implicitDefEqProofs (disch := omega) [go_sem]
    refine A2 (by exact A8 (Ext.refl hw)) (by first | with_reducible rfl | (simp -implicitDefEqProofs (disch := omega) [go_sem] <;> omega)) nbA hK
  ·intro c6 h
   try simp (disch := omega) at c6
   try simp -implicitDefEqProofs (disch := omega) [go_sem]
   subst hc2; refine vcK ?_; simp -implicitDefEqProofs only [go_sem]; have er := Option.some.inj h; subst er
   try simp -implicitDefEqProofs (disch := omega) [go_sem]
   refine A2 (by exact A8 (Ext.refl hw)) (by first | with_reducible rfl | (simp -implicitDefEqProofs (disch := omega) [go_sem] <;> omega)) nbA hK
 ·intro c7 h
  try simp (disch := omega) at c7
  try simp -implicitDefEqProofs (disch := omega) [go_sem]
  subst hc2; refine vcK ?_; simp -implicitDefEqProofs only [go_sem]; have er := Option.some.inj h; subst er
  try simp -implicitDefEqProofs (disch := omega) [go_sem]
  refine A2 (by exact A8 (Ext.refl hw)) (by first | with_reducible rfl | (simp -implicitDefEqProofs (disch := omega) [go_sem] <;> omega)) nbA hK
noncomputable def QL (a0 : Cs) : Option Bool :=
 (OS a0).bind fun (x3 : Bool) => some (!x3)
set_option maxHeartbeats 8000000 in
set_option pp.deepTerms false in
set_option maxRecDepth 60000 in
theorem QM {H : A0} {K : Am → A0 → Prop} (a0 : Cs) (ka1 : Nat) (Ak : H.obj ka1 = some (.cells ([.v (.func (.func 104) #[] #[])]))) {r : Bool} (h : QL a0 = some r) (hK : K (.ret (.v (.bool r))) H) : A3 prog 135 [.ag ([.v (str a0.fType), .v (str a0.A5)]), .p ka1 0] H K := by
 refine A9 (N := 8) func135 (by kernel_rfl) rfl (by kernel_rfl) (by kernel_rfl) fun cb hcb hw hbd hnb => ?_; clear hbd hnb; subst hcb; unfold QL at h; have XU : ka1 < H.next := Nat.lt_of_not_le fun q => by rw [hw _ q] at Ak; cases Ak
 refine A1 fun cb hc1 => ?_; refine vcK ?_
 try simp -implicitDefEqProofs (disch := omega) [go_sem, Ak]
 subst hc1; refine A1 fun cb hc2 => ?_; refine vcK ?_
 try simp -implicitDefEqProofs (disch := omega) [go_sem, Ak]
 obtain ⟨x3, hx3, h⟩ := A4 h; refine A3.eqA (args' := [.ag ([.v (str a0.fType), .v (str a0.A5)])]) (by first | with_reducible rfl | (simp -implicitDefEqProofs (disch := omega) [go_sem, Ak] <;> omega)) (QK a0 hx3 ?_)
 try simp -implicitDefEqProofs (disch := omega) [go_sem, Ak]
 subst hc2; refine vcK ?_; simp -implicitDefEqProofs only [go_sem]; have er := Option.some.inj h; subst er
 try simp -implicitDefEqProofs (disch := omega) [go_sem, Ak]
 refine A2 (by exact A8 (Ext.refl hw)) (by first | with_reducible rfl | (simp -implicitDefEqProofs (disch := omega) [go_sem, Ak] <;> omega)) nbA hK
noncomputable def Hy  : Option Int :=
 some (-1)
noncomputable def G9 (a0 : List Cs) (v5 : Int) : Option (Int ⊕ (Unit ⊕ Int)) :=
 if v5 < (a0.length : Int) then (gd (0 ≤ v5 ∧ v5 < a0.length) ((QL (a0.getD v5.toNat Cs.zero)).bind fun (x14 : Bool) => if x14 = true then (some (.inr (.inr v5))) else (some (.inl (IntKind.i64.wrap (v5 + 1)))))) else (some (.inr (.inl ())))
noncomputable def QN (a0 : List Cs) : Option Int :=
 (B3 (fun (s : Int) => G9 a0 s) 0).bind fun y => Sum.elim (fun (e : Unit) => Hy) (fun (q : Int) => some q) y
set_option maxHeartbeats 8000000 in
set_option pp.deepTerms false in
set_option maxRecDepth 60000 in
theorem QO {H : A0} {K : Am → A0 → Prop} (a0 : List Cs) (Eb : Nat) (B9 : H.obj Eb = some (.cells ([.v (.func (.func 104) #[] #[])]))) {r : Int} (h : QN a0 = some r) (hK : K (.ret (.v (.int .i64 r))) H) : A3 prog 162 [.sl 2 (a0.map fun x => [.v (str x.fType), .v (str x.A5)]), .fn (.func 135) [] [.p Eb 0]] H K := by
 refine A9 (N := 19) func162 (by kernel_rfl) rfl (by kernel_rfl) (by kernel_rfl) fun cb hcb hw hbd hnb => ?_; clear hbd hnb; subst hcb; unfold QN at h; have Te : Eb < H.next := Nat.lt_of_not_le fun q => by rw [hw _ q] at B9; cases B9
 refine A1 fun cb hc1 => ?_; refine vcK ?_
 try simp -implicitDefEqProofs (disch := omega) [go_sem, B9]
 subst hc1; refine A1 fun cb hc2 => ?_; refine A1 fun cb hc3 => ?_; refine vcK ?_
 try simp -implicitDefEqProofs (disch := omega) [go_sem, B9]
 subst hc3; obtain ⟨y4, hl4q, hk4⟩ := A4 h; refine AW (fun tm' H' => .inl () = y4 ∧ H = H') ?_ fun cb hc4 => ?_
 ·rintro tm4e H4e ⟨rfl, rfl⟩
  have h : Hy = some r := hk4; unfold Hy at h; simp -implicitDefEqProofs only [go_sem]; subst hc2; refine A1 fun cb hc6 => ?_; refine vcK ?_
  try simp -implicitDefEqProofs (disch := omega) [go_sem, B9]
  subst hc6; refine vcK ?_; simp -implicitDefEqProofs only [go_sem]; have er := Option.some.inj h; subst er
  try simp -implicitDefEqProofs (disch := omega) [go_sem, B9]
  refine A2 (by exact A8 (Ext.refl hw)) (by first | with_reducible rfl | (simp -implicitDefEqProofs (disch := omega) [go_sem, B9] <;> omega)) nbA hK
 ·refine Af ?_; refine AN (fun (s : Int) tm' H' => H = H' ∧ tm' 0 = .sl 2 (a0.map fun x => [.v (str x.fType), .v (str x.A5)]) ∧ tm' 1 = .fn (.func 135) [] [.p Eb 0] ∧ tm' 7 = .v (.int .i64 (a0.length : Int)) ∧ tm' 8 = .v (.int .i64 s)) hl4q ?_ ?_
  ·refine .same ⟨rfl, ?_, ?_, ?_, ?_⟩ <;> first | with_reducible rfl | with_reducible assumption | (simp -implicitDefEqProofs (disch := omega) [go_sem, B9] <;> omega)
  ·rintro I4 hI4 v5 x4 tm4 H4 ⟨rfl, Ah, AD, AE, AU⟩ h hret4
   replace h : G9 a0 v5 = some x4 := h; unfold G9 at h; refine A1 fun cb hc7 => ?_; refine vcK ?_
   try simp -implicitDefEqProofs (disch := omega) [go_sem, Ah, AD, AE, AU, B9]
   subst hc7; refine A1 fun cb hc8 => ?_; refine Aa h (by first | with_reducible rfl | (simp -implicitDefEqProofs (disch := omega) [go_sem, Ah, AD, AE, AU, B9] <;> omega)) rfl ?_ ?_
   ·intro c9 h
    try simp (disch := omega) at c9
    refine vcK ?_; simp -implicitDefEqProofs only [go_sem]; subst hc8; refine A1 fun cb hc10 => ?_; refine Af ?_; refine A1 fun cb hc11 => ?_; refine vcK ?_
    try simp -implicitDefEqProofs (disch := omega) [go_sem, Ah, AD, AE, AU, B9]
    subst hc11; refine A1 fun cb hc12 => ?_; refine vcK ?_; obtain ⟨g13, h⟩ := A7.1 h
    try simp (disch := omega) at g13
    try simp -implicitDefEqProofs (disch := omega) [go_sem, Ah, AD, AE, AU, B9]
    obtain ⟨x14, hx14, h⟩ := A4 h; refine A3.eqA (args' := [.ag ([.v (str ((a0.getD v5.toNat Cs.zero).fType)), .v (str ((a0.getD v5.toNat Cs.zero).A5))]), .p Eb 0]) (by first | with_reducible rfl | (simp -implicitDefEqProofs (disch := omega) [go_sem, Ah, AD, AE, AU, B9] <;> omega)) (QM (a0.getD v5.toNat Cs.zero) Eb (by first | with_reducible assumption | simp -implicitDefEqProofs (disch := omega) [go_sem, Ah, AD, AE, AU, B9]) hx14 ?_)
    try simp -implicitDefEqProofs (disch := omega) [go_sem, Ah, AD, AE, AU, B9]
    subst hc12; refine Aa h (by first | with_reducible rfl | (simp -implicitDefEqProofs (disch := omega) [go_sem, Ah, AD, AE, AU, B9] <;> omega)) rfl ?_ ?_
    ·intro c15 h
     try simp (disch := omega) at c15
     refine A1 fun cb hc16 => ?_; refine vcK ?_
     try simp -implicitDefEqProofs (disch := omega) [go_sem, Ah, AD, AE, AU, B9]
     subst hc16; refine vcK ?_; simp -implicitDefEqProofs only [go_sem]; have e4 := Option.some.inj h; subst e4; have e4 := hret4 _ rfl; subst e4; replace h : some v5 = some r := hk4; have er := Option.some.inj h; subst er
     try simp -implicitDefEqProofs (disch := omega) [go_sem, Ah, AD, AE, AU, B9]
     refine A2 (by exact A8 (Ext.refl hw)) (by first | with_reducible rfl | (simp -implicitDefEqProofs (disch := omega) [go_sem, Ah, AD, AE, AU, B9] <;> omega)) nbA hK
    ·intro c15 h
     try simp (disch := omega) at c15
     refine vcK ?_; simp -implicitDefEqProofs only [go_sem]; subst hc10; refine vcK ?_
     try simp -implicitDefEqProofs (disch := omega) [go_sem, Ah, AD, AE, AU, B9]
     have e4 := Option.some.inj h; subst e4; refine Au hI4 (IntKind.i64.wrap (v5 + 1)) ?_; refine .same ⟨rfl, ?_, ?_, ?_, ?_⟩ <;> first | with_reducible rfl | with_reducible assumption | (simp -implicitDefEqProofs (disch := omega) [go_sem, Ah, AD, AE, AU, B9] <;> omega)
   ·intro c9 h
    try simp (disch := omega) at c9
    refine vcK ?_; simp -implicitDefEqProofs only [go_sem]; have e4 := Option.some.inj h; subst e4; have hy4 := hret4 _ rfl; refine hc4 _ _ ?_; refine .same ⟨hy4, rfl⟩
end Go.Idl
namespace Go.Idl
open Go Go.Proofs.Tryz
noncomputable def OT (a0 : List Cs) : Option Bool :=
 (QN a0).bind fun (x3 : Int) => some (decide (0 ≤ x3))
set_option maxHeartbeats 8000000 in
set_option pp.deepTerms false in
set_option maxRecDepth 60000 in
theorem QS {H : A0} {K : Am → A0 → Prop} (a0 : List Cs) (Eb : Nat) (B9 : H.obj Eb = some (.cells ([.v (.func (.func 104) #[] #[])]))) {r : Bool} (h : OT a0 = some r) (hK : K (.ret (.v (.bool r))) H) : A3 prog 134 [.sl 2 (a0.map fun x => [.v (str x.fType), .v (str x.A5)]), .fn (.func 135) [] [.p Eb 0]] H K := by
 refine A9 (N := 9) func134 (by kernel_rfl) rfl (by kernel_rfl) (by kernel_rfl) fun cb hcb hw hbd hnb => ?_; clear hbd hnb; subst hcb; unfold OT at h; have Te : Eb < H.next := Nat.lt_of_not_le fun q => by rw [hw _ q] at B9; cases B9
 refine A1 fun cb hc1 => ?_; refine vcK ?_
 try simp -implicitDefEqProofs (disch := omega) [go_sem, B9]
 subst hc1; refine A1 fun cb hc2 => ?_; refine vcK ?_
 try simp -implicitDefEqProofs (disch := omega) [go_sem, B9]
 obtain ⟨x3, hx3, h⟩ := A4 h; refine A3.eqA (args' := [.sl 2 (a0.map fun x => [.v (str x.fType), .v (str x.A5)]), .fn (.func 135) [] [.p Eb 0]]) (by first | with_reducible rfl | (simp -implicitDefEqProofs (disch := omega) [go_sem, B9] <;> omega)) (QO a0 Eb (by first | with_reducible assumption | simp -implicitDefEqProofs (disch := omega) [go_sem, B9]) hx3 ?_)
 try simp -implicitDefEqProofs (disch := omega) [go_sem, B9]
 subst hc2; refine vcK ?_; simp -implicitDefEqProofs only [go_sem]; have er := Option.some.inj h; subst er
 try simp -implicitDefEqProofs (disch := omega) [go_sem, B9]
 refine A2 (by exact A8 (Ext.refl hw)) (by first | with_reducible rfl | (simp -implicitDefEqProofs (disch := omega) [go_sem, B9] <;> omega)) nbA hK
noncomputable def QT (a0 : List Cs) : Option Bool :=
 (OT a0).bind fun (x3 : Bool) => some (!x3)
set_option maxHeartbeats 8000000 in
set_option pp.deepTerms false in
set_option maxRecDepth 60000 in
theorem QU {H : A0} {K : Am → A0 → Prop} (a0 : List Cs) {r : Bool} (h : QT a0 = some r) (hK : K (.ret (.v (.bool r))) H) : A3 prog 106 [.sl 2 (a0.map fun x => [.v (str x.fType), .v (str x.A5)]), .v (.func (.func 104) #[] #[])] H K := by
 refine A9 (N := 9) func106 (by kernel_rfl) rfl (by kernel_rfl) (by kernel_rfl) fun cb hcb hw hbd hnb => ?_; clear hbd hnb; subst hcb; unfold QT at h; refine A1 fun cb hc1 => ?_; refine vcK ?_
 try simp -implicitDefEqProofs (disch := omega) [go_sem]
 subst hc1; refine A1 fun cb hc2 => ?_; refine vcK ?_
 try simp -implicitDefEqProofs (disch := omega) [go_sem]
 obtain ⟨x3, hx3, h⟩ := A4 h; refine A3.eqA (args' := [.sl 2 (a0.map fun x => [.v (str x.fType), .v (str x.A5)]), .fn (.func 135) [] [.p H.next 0]]) (by first | with_reducible rfl | (simp -implicitDefEqProofs (disch := omega) [go_sem] <;> omega)) (QS a0 H.next (by first | with_reducible assumption | simp -implicitDefEqProofs (disch := omega) [go_sem]) hx3 ?_)
 try simp -implicitDefEqProofs (disch := omega) [go_sem]
 subst hc2; refine vcK ?_; simp -implicitDefEqProofs only [go_sem]; have er := Option.some.inj h; subst er
 try simp -implicitDefEqProofs (disch := omega) [go_sem]
 refine A2 (by exact A8 (Ext.refl hw)) (by first | with_reducible rfl | (simp -implicitDefEqProofs (disch := omega) [go_sem] <;> omega)) nbA hK
noncomputable def F79 (a0 : List Cs) : Option Int :=
 if 16 < (a0.length : Int) then (some 2) else ((QT a0).bind fun (x6 : Bool) => if ¬ (x6 = true) then (some 2) else (some 0))
set_option maxHeartbeats 8000000 in
set_option pp.deepTerms false in
set_option maxRecDepth 60000 in
theorem Tf {H : A0} {K : Am → A0 → Prop} (a0 : List Cs) {r : Int} (h : F79 a0 = some r) (hK : K (.ret (.v (.int .i64 r))) H) : A3 prog 79 [.sl 2 (a0.map fun x => [.v (str x.fType), .v (str x.A5)])] H K := by
 refine A9 (N := 13) func79 (by kernel_rfl) rfl (by kernel_rfl) (by kernel_rfl) fun cb hcb hw hbd hnb => ?_; clear hbd hnb; subst hcb; unfold F79 at h; refine A1 fun cb hc1 => ?_; refine vcK ?_
 try simp -implicitDefEqProofs (disch := omega) [go_sem]
 subst hc1; refine A1 fun cb hc2 => ?_; refine vcK ?_
 try simp -implicitDefEqProofs (disch := omega) [go_sem]
 subst hc2; refine A1 fun cb hc3 => ?_; refine A1 fun cb hc4 => ?_; refine vcK ?_
 try simp -implicitDefEqProofs (disch := omega) [go_sem]
 refine A6 h (by first | with_reducible rfl | (simp -implicitDefEqProofs (disch := omega) [go_sem] <;> omega)) ?_ ?_
 ·intro c10 h
  try simp (disch := omega) at c10
  try simp -implicitDefEqProofs (disch := omega) [go_sem]
  subst hc4; refine Aw (by first | with_reducible rfl | (simp -implicitDefEqProofs (disch := omega) [go_sem] <;> omega)) rfl ?_; refine A1 fun cb hc5 => ?_; refine vcK ?_
  try simp -implicitDefEqProofs (disch := omega) [go_sem]
  subst hc5; refine vcK ?_; simp -implicitDefEqProofs only [go_sem]; have er := Option.some.inj h; subst er
  try simp -implicitDefEqProofs (disch := omega) [go_sem]
  refine A2 (by exact A8 (Ext.refl hw)) (by first | with_reducible rfl | (simp -implicitDefEqProofs (disch := omega) [go_sem] <;> omega)) nbA hK
 ·intro c10 h
  try simp (disch := omega) at c10
  try simp -implicitDefEqProofs (disch := omega) [go_sem]
  obtain ⟨x6, hx6, h⟩ := A4 h; refine A3.eqA (args' := [.sl 2 (a0.map fun x => [.v (str x.fType), .v (str x.A5)]), .v (.func (.func 104) #[] #[])]) (by first | with_reducible rfl | (simp -implicitDefEqProofs (disch := omega) [go_sem] <;> omega)) (QU a0 hx6 ?_)
  try simp -implicitDefEqProofs (disch := omega) [go_sem]
  subst hc4; refine Aa h (by first | with_reducible rfl | (simp -implicitDefEqProofs (disch := omega) [go_sem] <;> omega)) rfl ?_ ?_
  ·intro c7 h
   try simp (disch := omega) at c7
   refine A1 fun cb hc8 => ?_; refine vcK ?_
   try simp -implicitDefEqProofs (disch := omega) [go_sem]
   subst hc8; refine vcK ?_; simp -implicitDefEqProofs only [go_sem]; have er := Option.some.inj h; subst er
   try simp -implicitDefEqProofs (disch := omega) [go_sem]
   refine A2 (by exact A8 (Ext.refl hw)) (by first | with_reducible rfl | (simp -implicitDefEqProofs (disch := omega) [go_sem] <;> omega)) nbA hK
  ·intro c7 h
   try simp (disch := omega) at c7
   refine vcK ?_; simp -implicitDefEqProofs only [go_sem]; subst hc3; refine A1 fun cb hc9 => ?_; refine vcK ?_
   try simp -implicitDefEqProofs (disch := omega) [go_sem]
   subst hc9; refine vcK ?_; simp -implicitDefEqProofs only [go_sem]; have er := Option.some.inj h; subst er
   try simp -implicitDefEqProofs (disch := omega) [go_sem]
   refine A2 (by exact A8 (Ext.refl hw)) (by first | with_reducible rfl | (simp -implicitDefEqProofs (disch := omega) [go_sem] <;> omega)) nbA hK
noncomputable def F56 (a0 : List UInt8) : Option Bool :=
 (F57 a0).bind fun (x3 : (List UInt8)) => (F79 ([(⟨x3, [120]⟩ : Cs)])).bind fun (x4 : Int) => some (decide (x4 = 0))
set_option maxHeartbeats 8000000 in
set_option pp.deepTerms false in
set_option maxRecDepth 60000 in
theorem OU {H : A0} {K : Am → A0 → Prop} (a0 : List UInt8) {r : Bool} (h : F56 a0 = some r) (hK : K (.ret (.v (.bool r))) H) : A3 prog 56 [.v (str a0)] H K := by
 refine A9 (N := 9) func56 (by kernel_rfl) rfl (by kernel_rfl) (by kernel_rfl) fun cb hcb hw hbd hnb => ?_; clear hbd hnb; subst hcb; unfold F56 at h; refine A1 fun cb hc1 => ?_; refine vcK ?_
 try simp -implicitDefEqProofs (disch := omega) [go_sem, bdP]
 subst hc1; refine A1 fun cb hc2 => ?_; refine vcK ?_
 try simp -implicitDefEqProofs (disch := omega) [go_sem, bdP]
 obtain ⟨x3, hx3, h⟩ := A4 h; refine A3.eqA (args' := [.v (str a0)]) (by first | with_reducible rfl | (simp -implicitDefEqProofs (disch := omega) [go_sem, bdP] <;> omega)) (Fw a0 hx3 ?_)
 try simp -implicitDefEqProofs (disch := omega) [go_sem, bdP]
 obtain ⟨x4, hx4, h⟩ := A4 h; refine A3.eqA (args' := [.sl 2 (([(⟨x3, [120]⟩ : Cs)]).map fun x => [.v (str x.fType), .v (str x.A5)])]) (by first | with_reducible rfl | (simp -implicitDefEqProofs (disch := omega) [go_sem, bdP] <;> omega)) (Tf ([(⟨x3, [120]⟩ : Cs)]) hx4 ?_)
 try simp -implicitDefEqProofs (disch := omega) [go_sem, bdP]
 subst hc2; refine vcK ?_; simp -implicitDefEqProofs only [go_sem]; have er := Option.some.inj h; subst er
 try simp -implicitDefEqProofs (disch := omega) [go_sem, bdP]
 refine A2 (by exact A8 (Ext.refl hw)) (by first | with_reducible rfl | (simp -implicitDefEqProofs (disch := omega) [go_sem, bdP] <;> omega)) nbA hK
noncomputable def F81 (a0 : Int) : Option Bool :=
 if 32 ≤ a0 then (some (decide (a0 ≤ 126))) else (some false)
set_option maxHeartbeats 8000000 in
set_option pp.deepTerms false in
set_option maxRecDepth 60000 in
theorem Tg {H : A0} {K : Am → A0 → Prop} (a0 : Int) {r : Bool} (h : F81 a0 = some r) (hK : K (.ret (.v (.bool r))) H) : A3 prog 81 [.v (.int .u8 a0)] H K := by
 refine A9 (N := 9) func81 (by kernel_rfl) rfl (by kernel_rfl) (by kernel_rfl) fun cb hcb hw hbd hnb => ?_; clear hbd hnb; subst hcb; unfold F81 at h; refine A1 fun cb hc1 => ?_; refine vcK ?_
 try simp -implicitDefEqProofs (disch := omega) [go_sem]
 subst hc1; refine A1 fun cb hc2 => ?_; refine vcK ?_
 try simp -implicitDefEqProofs (disch := omega) [go_sem]
 refine A6 h (by first | with_reducible rfl | (simp -implicitDefEqProofs (disch := omega) [go_sem] <;> omega)) ?_ ?_
 ·intro c3 h
  try simp (disch := omega) at c3
  try simp -implicitDefEqProofs (disch := omega) [go_sem]
  subst hc2; refine vcK ?_; simp -implicitDefEqProofs only [go_sem]; have er := Option.some.inj h; subst er
  try simp -implicitDefEqProofs (disch := omega) [go_sem]
  refine A2 (by exact A8 (Ext.refl hw)) (by first | with_reducible rfl | (simp -implicitDefEqProofs (disch := omega) [go_sem] <;> omega)) nbA hK
 ·intro c3 h
  try simp (disch := omega) at c3
  try simp -implicitDefEqProofs (disch := omega) [go_sem]
  subst hc2; refine vcK ?_; simp -implicitDefEqProofs only [go_sem]; have er := Option.some.inj h; subst er
  try simp -implicitDefEqProofs (disch := omega) [go_sem]
  refine A2 (by exact A8 (Ext.refl hw)) (by first | with_reducible rfl | (simp -implicitDefEqProofs (disch := omega) [go_sem] <;> omega)) nbA hK
noncomputable def Ga  : Option Bool :=
 some true
noncomputable def Ey (a0 : List UInt8) (v6 : Int) : Option (Int ⊕ (Unit ⊕ Bool)) :=
 if v6 < (a0.length : Int) then (gd (0 ≤ v6 ∧ v6 < a0.length) ((F81 (((a0.getD v6.toNat 0).toNat : Int))).bind fun (x15 : Bool) => if ¬ (x15 = true) then (some (.inr (.inr false))) else (some (.inl (IntKind.i64.wrap (v6 + 1)))))) else (some (.inr (.inl ())))
noncomputable def Lb (a0 : List UInt8) : Option Bool :=
 gd ((a0.length : Int) ≤ 9223372036854775807) ((B3 (fun (s : Int) => Ey a0 s) 0).bind fun y => Sum.elim (fun (e : Unit) => Ga) (fun (q : Bool) => some q) y)
set_option maxHeartbeats 8000000 in
set_option pp.deepTerms false in
set_option maxRecDepth 60000 in
theorem OV {H : A0} {K : Am → A0 → Prop} (a0 : List UInt8) {r : Bool} (h : Lb a0 = some r) (hK : K (.ret (.v (.bool r))) H) : A3 prog 34 [.v (str a0), .v (.func (.func 81) #[] #[])] H K := by
 refine A9 (N := 19) func34 (by kernel_rfl) rfl (by kernel_rfl) (by kernel_rfl) fun cb hcb hw hbd hnb => ?_; clear hbd hnb; subst hcb; unfold Lb at h; refine A1 fun cb hc1 => ?_; refine vcK ?_
 try simp -implicitDefEqProofs (disch := omega) [go_sem]
 subst hc1; refine A1 fun cb hc2 => ?_; refine A1 fun cb hc3 => ?_; refine vcK ?_; obtain ⟨g4, h⟩ := A7.1 h
 try simp (disch := omega) at g4
 try simp -implicitDefEqProofs (disch := omega) [go_sem]
 refine D0 a0 rfl (by kernel_rfl) underlying9 underlying23 underlying5 (by first | with_reducible rfl | (simp -implicitDefEqProofs (disch := omega) [go_sem]; done) | rfl) (by first | omega | decide | (simp; omega)) ?_
 try simp -implicitDefEqProofs (disch := omega) [go_sem]
 subst hc3; obtain ⟨y5, hl5q, hk5⟩ := A4 h; refine AW (fun tm' H' => .inl () = y5 ∧ H = H') ?_ fun cb hc5 => ?_
 ·rintro tm5e H5e ⟨rfl, rfl⟩
  have h : Ga = some r := hk5; unfold Ga at h; simp -implicitDefEqProofs only [go_sem]; subst hc2; refine A1 fun cb hc7 => ?_; refine vcK ?_
  try simp -implicitDefEqProofs (disch := omega) [go_sem]
  subst hc7; refine vcK ?_; simp -implicitDefEqProofs only [go_sem]; have er := Option.some.inj h; subst er
  try simp -implicitDefEqProofs (disch := omega) [go_sem]
  refine A2 (by exact A8 (Ext.refl hw)) (by first | with_reducible rfl | (simp -implicitDefEqProofs (disch := omega) [go_sem] <;> omega)) nbA hK
 ·refine Af ?_; refine AN (fun (s : Int) tm' H' => H = H' ∧ tm' 1 = .v (.func (.func 81) #[] #[]) ∧ tm' 8 = .sl 1 (a0.map fun x => [.v (.int .u8 x.toNat)]) ∧ tm' 9 = .v (.int .i64 (a0.length : Int)) ∧ tm' 10 = .v (.int .i64 s)) hl5q ?_ ?_
  ·refine .same ⟨rfl, ?_, ?_, ?_, ?_⟩ <;> first | with_reducible rfl | with_reducible assumption | (simp -implicitDefEqProofs (disch := omega) [go_sem] <;> omega)
  ·rintro I5 hI5 v6 x5 tm5 H5 ⟨rfl, Br, Al, Bs, AQ⟩ h hret5
   replace h : Ey a0 v6 = some x5 := h; unfold Ey at h; refine A1 fun cb hc8 => ?_; refine vcK ?_
   try simp -implicitDefEqProofs (disch := omega) [go_sem, Br, Al, Bs, AQ]
   subst hc8; refine A1 fun cb hc9 => ?_; refine Aa h (by first | with_reducible rfl | (simp -implicitDefEqProofs (disch := omega) [go_sem, Br, Al, Bs, AQ] <;> omega)) rfl ?_ ?_
   ·intro c10 h
    try simp (disch := omega) at c10
    refine vcK ?_; simp -implicitDefEqProofs only [go_sem]; subst hc9; refine A1 fun cb hc11 => ?_; refine Af ?_; refine A1 fun cb hc12 => ?_; refine vcK ?_; obtain ⟨g13, h⟩ := A7.1 h
    try simp (disch := omega) at g13
    try simp -implicitDefEqProofs (disch := omega) [go_sem, Br, Al, Bs, AQ]
    subst hc12; refine A1 fun cb hc14 => ?_; refine vcK ?_
    try simp -implicitDefEqProofs (disch := omega) [go_sem, Br, Al, Bs, AQ]
    obtain ⟨x15, hx15, h⟩ := A4 h; refine A3.eqA (args' := [.v (.int .u8 (((a0.getD v6.toNat 0).toNat : Int)))]) (by first | with_reducible rfl | (simp -implicitDefEqProofs (disch := omega) [go_sem, Br, Al, Bs, AQ] <;> omega)) (Tg (((a0.getD v6.toNat 0).toNat : Int)) hx15 ?_)
    try simp -implicitDefEqProofs (disch := omega) [go_sem, Br, Al, Bs, AQ]
    subst hc14; refine Aa h (by first | with_reducible rfl | (simp -implicitDefEqProofs (disch := omega) [go_sem, Br, Al, Bs, AQ] <;> omega)) rfl ?_ ?_
    ·intro c16 h
     try simp (disch := omega) at c16
     refine A1 fun cb hc17 => ?_; refine vcK ?_
     try simp -implicitDefEqProofs (disch := omega) [go_sem, Br, Al, Bs, AQ]
     subst hc17; refine vcK ?_; simp -implicitDefEqProofs only [go_sem]; have e5 := Option.some.inj h; subst e5; have e5 := hret5 _ rfl; subst e5; replace h : some false = some r := hk5; have er := Option.some.inj h; subst er
     try simp -implicitDefEqProofs (disch := omega) [go_sem, Br, Al, Bs, AQ]
     refine A2 (by exact A8 (Ext.refl hw)) (by first | with_reducible rfl | (simp -implicitDefEqProofs (disch := omega) [go_sem, Br, Al, Bs, AQ] <;> omega)) nbA hK
    ·intro c16 h
     try simp (disch := omega) at c16
     refine vcK ?_; simp -implicitDefEqProofs only [go_sem]; subst hc11; refine vcK ?_
     try simp -implicitDefEqProofs (disch := omega) [go_sem, Br, Al, Bs, AQ]
     have e5 := Option.some.inj h; subst e5; refine Au hI5 (IntKind.i64.wrap (v6 + 1)) ?_; refine .same ⟨rfl, ?_, ?_, ?_, ?_⟩ <;> first | with_reducible rfl | with_reducible assumption | (simp -implicitDefEqProofs (disch := omega) [go_sem, Br, Al, Bs, AQ] <;> omega)
   ·intro c10 h
    try simp (disch := omega) at c10
    refine vcK ?_; simp -implicitDefEqProofs only [go_sem]; have e5 := Option.some.inj h; subst e5; have hy5 := hret5 _ rfl; refine hc5 _ _ ?_; refine .same ⟨hy5, rfl⟩
noncomputable def F58 (a0 : List UInt8) : Option Bool :=
 if (a0.length : Int) ≤ 200 then ((F80 a0 ([32])).bind fun (x3 : (List UInt8)) => if x3 = a0 then ((Lb a0).bind fun (x4 : Bool) => some x4) else (some false)) else (some false)
set_option maxHeartbeats 8000000 in
set_option pp.deepTerms false in
set_option maxRecDepth 60000 in
theorem OW {H : A0} {K : Am → A0 → Prop} (a0 : List UInt8) {r : Bool} (h : F58 a0 = some r) (hK : K (.ret (.v (.bool r))) H) : A3 prog 58 [.v (str a0)] H K := by
 refine A9 (N := 16) func58 (by kernel_rfl) rfl (by kernel_rfl) (by kernel_rfl) fun cb hcb hw hbd hnb => ?_; clear hbd hnb; subst hcb; unfold F58 at h; refine A1 fun cb hc1 => ?_; refine vcK ?_
 try simp -implicitDefEqProofs (disch := omega) [go_sem]
 subst hc1; refine A1 fun cb hc2 => ?_; refine vcK ?_
 try simp -implicitDefEqProofs (disch := omega) [go_sem]
 refine A6 h (by first | with_reducible rfl | (simp -implicitDefEqProofs (disch := omega) [go_sem] <;> omega)) ?_ ?_
 ·intro c6 h
  try simp (disch := omega) at c6
  try simp -implicitDefEqProofs (disch := omega) [go_sem]
  obtain ⟨x3, hx3, h⟩ := A4 h; refine A3.eqA (args' := [.v (str a0), .v (str ([32]))]) (by first | with_reducible rfl | (simp -implicitDefEqProofs (disch := omega) [go_sem] <;> omega)) (Mf a0 ([32]) hx3 ?_)
  try simp -implicitDefEqProofs (disch := omega) [go_sem]
  refine A6 h (by first | with_reducible rfl | (simp -implicitDefEqProofs (disch := omega) [go_sem] <;> omega)) ?_ ?_
  ·intro c5 h
   try simp (disch := omega) at c5
   try simp -implicitDefEqProofs (disch := omega) [go_sem]
   obtain ⟨x4, hx4, h⟩ := A4 h; refine A3.eqA (args' := [.v (str a0), .v (.func (.func 81) #[] #[])]) (by first | with_reducible rfl | (simp -implicitDefEqProofs (disch := omega) [go_sem] <;> omega)) (OV a0 hx4 ?_)
   try simp -implicitDefEqProofs (disch := omega) [go_sem]
   subst hc2; refine vcK ?_; simp -implicitDefEqProofs only [go_sem]; have er := Option.some.inj h; subst er
   try simp -implicitDefEqProofs (disch := omega) [go_sem]
   refine A2 (by exact A8 (Ext.refl hw)) (by first | with_reducible rfl | (simp -implicitDefEqProofs (disch := omega) [go_sem] <;> omega)) nbA hK
  ·intro c5 h
   try simp (disch := omega) at c5
   try simp -implicitDefEqProofs (disch := omega) [go_sem]
   subst hc2; refine vcK ?_; simp -implicitDefEqProofs only [go_sem]; have er := Option.some.inj h; subst er
   try simp -implicitDefEqProofs (disch := omega) [go_sem]
   refine A2 (by exact A8 (Ext.refl hw)) (by first | with_reducible rfl | (simp -implicitDefEqProofs (disch := omega) [go_sem] <;> omega)) nbA hK
 ·intro c6 h
  try simp (disch := omega) at c6
  try simp -implicitDefEqProofs (disch := omega) [go_sem]
  subst hc2; refine vcK ?_; simp -implicitDefEqProofs only [go_sem]; have er := Option.some.inj h; subst er
  try simp -implicitDefEqProofs (disch := omega) [go_sem]
  refine A2 (by exact A8 (Ext.refl hw)) (by first | with_reducible rfl | (simp -implicitDefEqProofs (disch := omega) [go_sem] <;> omega)) nbA hK
noncomputable def Ke (a0 : List S55) (a1 : List UInt8) : Option Bool :=
 if (a0.length : Int) ≤ 16 then (some (decide ((a1.length : Int) ≤ 60000))) else (some false)
noncomputable def Ez (a0 : List S55) (v5 : Int) : Option (Int ⊕ (Unit ⊕ Bool)) :=
 if v5 < (a0.length : Int) then (gd (0 ≤ v5 ∧ v5 < a0.length) ((F56 ((a0.getD v5.toNat S55.zero).fName)).bind fun (x15 : Bool) => if ¬ (x15 = true) then (some (.inr (.inr false))) else ((F57 ((a0.getD v5.toNat S55.zero).fName)).bind fun (x17 : (List UInt8)) => if ¬ x17 = ((a0.getD v5.toNat S55.zero).fName) then (some (.inr (.inr false))) else ((F58 ((a0.getD v5.toNat S55.zero).A5)).bind fun (x19 : Bool) => if ¬ (x19 = true) then (some (.inr (.inr false))) else (if ((a0.getD v5.toNat S55.zero).fName) = ([99, 111, 110, 116, 101, 110, 116, 45, 108, 101, 110, 103, 116, 104]) then (some (.inr (.inr false))) else (if ((a0.getD v5.toNat S55.zero).fName) = ([116, 114, 97, 110, 115, 102, 101, 114, 45, 101, 110, 99, 111, 100, 105, 110, 103]) then (some (.inr (.inr false))) else (if 0 < v5 then (gd (0 ≤ (IntKind.i64.wrap (v5 - 1)) ∧ (IntKind.i64.wrap (v5 - 1)) < a0.length) (if ¬ Op.bytesLess ((a0.getD (IntKind.i64.wrap (v5 - 1)).toNat S55.zero).fName) ((a0.getD v5.toNat S55.zero).fName) = true then (some (.inr (.inr false))) else (some (.inl (IntKind.i64.wrap (v5 + 1)))))) else (some (.inl (IntKind.i64.wrap (v5 + 1))))))))))) else (some (.inr (.inl ())))
noncomputable def F27 (a0 : List S55) (a1 : List UInt8) : Option Bool :=
 (B3 (fun (s : Int) => Ez a0 s) 0).bind fun y => Sum.elim (fun (e : Unit) => Ke a0 a1) (fun (q : Bool) => some q) y
set_option maxHeartbeats 8000000 in
set_option pp.deepTerms false in
set_option maxRecDepth 60000 in
theorem Mh {H : A0} {K : Am → A0 → Prop} (a0 : List S55) (a1 : List UInt8) {r : Bool} (h : F27 a0 a1 = some r) (hK : K (.ret (.v (.bool r))) H) : A3 prog 27 [.sl 2 (a0.map fun x => [.v (str x.fName), .v (str x.A5)]), .sl 1 (a1.map fun x => [.v (.int .u8 x.toNat)])] H K := by
 refine A9 (N := 66) func27 (by kernel_rfl) rfl (by kernel_rfl) (by kernel_rfl) fun cb hcb hw hbd hnb => ?_; clear hbd hnb; subst hcb; unfold F27 at h; refine A1 fun cb hc1 => ?_; refine vcK ?_
 try simp -implicitDefEqProofs (disch := omega) [go_sem]
 subst hc1; refine A1 fun cb hc2 => ?_; refine A1 fun cb hc3 => ?_; refine vcK ?_
 try simp -implicitDefEqProofs (disch := omega) [go_sem]
 subst hc3; obtain ⟨y4, hl4q, hk4⟩ := A4 h; refine AW (fun tm' H' => .inl () = y4 ∧ Ext H H' ∧ H.next ≤ H'.next ∧ tm' 0 = .sl 2 (a0.map fun x => [.v (str x.fName), .v (str x.A5)]) ∧ tm' 1 = .sl 1 (a1.map fun x => [.v (.int .u8 x.toNat)])) ?_ fun cb hc4 => ?_
 ·rintro tm4e H4e ⟨rfl, he4e, hl4e, t0_4e, t1_4e⟩
  have h : Ke a0 a1 = some r := hk4; unfold Ke at h; simp -implicitDefEqProofs only [go_sem]; subst hc2; refine A1 fun cb hc6 => ?_; refine vcK ?_
  try simp -implicitDefEqProofs (disch := omega) [go_sem, t0_4e, t1_4e]
  refine A6 h (by first | with_reducible rfl | (simp -implicitDefEqProofs (disch := omega) [go_sem, t0_4e, t1_4e] <;> omega)) ?_ ?_
  ·intro c7 h
   try simp (disch := omega) at c7
   try simp -implicitDefEqProofs (disch := omega) [go_sem, t0_4e, t1_4e]
   subst hc6; refine vcK ?_; simp -implicitDefEqProofs only [go_sem]; have er := Option.some.inj h; subst er
   try simp -implicitDefEqProofs (disch := omega) [go_sem, t0_4e, t1_4e]
   refine A2 (by exact A8 he4e) (by first | with_reducible rfl | (simp -implicitDefEqProofs (disch := omega) [go_sem, t0_4e, t1_4e] <;> omega)) nbA hK
  ·intro c7 h
   try simp (disch := omega) at c7
   try simp -implicitDefEqProofs (disch := omega) [go_sem, t0_4e, t1_4e]
   subst hc6; refine vcK ?_; simp -implicitDefEqProofs only [go_sem]; have er := Option.some.inj h; subst er
   try simp -implicitDefEqProofs (disch := omega) [go_sem, t0_4e, t1_4e]
   refine A2 (by exact A8 he4e) (by first | with_reducible rfl | (simp -implicitDefEqProofs (disch := omega) [go_sem, t0_4e, t1_4e] <;> omega)) nbA hK
 ·refine Af ?_; refine AN (fun (s : Int) tm' H' => Ext H H' ∧ H.next ≤ H'.next ∧ tm' 0 = .sl 2 (a0.map fun x => [.v (str x.fName), .v (str x.A5)]) ∧ tm' 1 = .sl 1 (a1.map fun x => [.v (.int .u8 x.toNat)]) ∧ tm' 7 = .sl 2 (a0.map fun x => [.v (str x.fName), .v (str x.A5)]) ∧ tm' 8 = .v (.int .i64 (a0.length : Int)) ∧ tm' 9 = .v (.int .i64 s)) hl4q ?_ ?_
  ·refine .same ⟨by exact A8 (Ext.refl hw), by first | with_reducible rfl | with_reducible assumption | omega | (simp -implicitDefEqProofs (disch := omega) [go_sem] <;> omega), ?_, ?_, ?_, ?_, ?_⟩ <;> first | with_reducible rfl | with_reducible assumption | (simp -implicitDefEqProofs (disch := omega) [go_sem] <;> omega)
  ·rintro I4 hI4 v5 x4 tm4 H4 ⟨he4, hl4, Ah, AD, AE, AU, Ba⟩ h hret4
   replace h : Ez a0 v5 = some x4 := h; unfold Ez at h; refine A1 fun cb hc8 => ?_; refine vcK ?_
   try simp -implicitDefEqProofs (disch := omega) [go_sem, Ah, AD, AE, AU, Ba]
   subst hc8; refine A1 fun cb hc9 => ?_; refine Aa h (by first | with_reducible rfl | (simp -implicitDefEqProofs (disch := omega) [go_sem, Ah, AD, AE, AU, Ba] <;> omega)) rfl ?_ ?_
   ·intro c10 h
    try simp (disch := omega) at c10
    refine vcK ?_; simp -implicitDefEqProofs only [go_sem]; subst hc9; refine A1 fun cb hc11 => ?_; refine Af ?_; refine A1 fun cb hc12 => ?_; refine vcK ?_; obtain ⟨g13, h⟩ := A7.1 h
    try simp (disch := omega) at g13
    try simp -implicitDefEqProofs (disch := omega) [go_sem, Ah, AD, AE, AU, Ba]
    subst hc12; refine A1 fun cb hc14 => ?_; refine BX [2, 7, 15] [0, 1, 2, 3, 4, 5, 6, 7, 8, 9, 10, 11, 12, 13, 14, 15, 16, 17, 18, 19, 20, 21, 22, 23, 24, 25, 26, 27, 28, 29, 30, 31, 32, 33, 34, 35, 36, 37, 38, 39, 40, 41, 42] (by kernel_rfl) (by kernel_rfl) (fun _ _ _ _ h => h) ?_
    try simp -implicitDefEqProofs (disch := omega) [go_sem, Ah, AD, AE, AU, Ba]
    obtain ⟨x15, hx15, h⟩ := A4 h; refine Cu.mk _ (fun _ _ hK => A3.eqA (args' := [.v (str ((a0.getD v5.toNat S55.zero).fName))]) (by first | with_reducible rfl | (simp -implicitDefEqProofs (disch := omega) [go_sem, Ah, AD, AE, AU, Ba] <;> omega)) (OU ((a0.getD v5.toNat S55.zero).fName) hx15 hK)) ?_
    try simp -implicitDefEqProofs (disch := omega) [go_sem, Ah, AD, AE, AU, Ba]
    refine A6 h (by first | with_reducible rfl | (simp -implicitDefEqProofs (disch := omega) [go_sem, Ah, AD, AE, AU, Ba] <;> omega)) ?_ ?_
    ·intro c31 h
     try simp (disch := omega) at c31
     try simp -implicitDefEqProofs (disch := omega) [go_sem, Ah, AD, AE, AU, Ba]
     subst hc14; refine Aw (by first | with_reducible rfl | (simp -implicitDefEqProofs (disch := omega) [go_sem, Ah, AD, AE, AU, Ba] <;> omega)) rfl ?_; refine A1 fun cb hc16 => ?_; refine vcK ?_
     try simp -implicitDefEqProofs (disch := omega) [go_sem, Ah, AD, AE, AU, Ba]
     subst hc16; refine vcK ?_; simp -implicitDefEqProofs only [go_sem]; have e4 := Option.some.inj h; subst e4; have e4 := hret4 _ rfl; subst e4; replace h : some false = some r := hk4; have er := Option.some.inj h; subst er
     try simp -implicitDefEqProofs (disch := omega) [go_sem, Ah, AD, AE, AU, Ba]
     refine A2 (by exact A8 he4) (by first | with_reducible rfl | (simp -implicitDefEqProofs (disch := omega) [go_sem, Ah, AD, AE, AU, Ba] <;> omega)) nbA hK
    ·intro c31 h
     try simp (disch := omega) at c31
     try simp -implicitDefEqProofs (disch := omega) [go_sem, Ah, AD, AE, AU, Ba]
     obtain ⟨x17, hx17, h⟩ := A4 h; refine Cu.mk _ (fun _ _ hK => A3.eqA (args' := [.v (str ((a0.getD v5.toNat S55.zero).fName))]) (by first | with_reducible rfl | (simp -implicitDefEqProofs (disch := omega) [go_sem, Ah, AD, AE, AU, Ba] <;> omega)) (Fw ((a0.getD v5.toNat S55.zero).fName) hx17 hK)) ?_
     try simp -implicitDefEqProofs (disch := omega) [go_sem, Ah, AD, AE, AU, Ba]
     refine A6 h (by first | with_reducible rfl | (simp -implicitDefEqProofs (disch := omega) [go_sem, Ah, AD, AE, AU, Ba] <;> omega)) ?_ ?_
     ·intro c30 h
      try simp (disch := omega) at c30
      try simp -implicitDefEqProofs (disch := omega) [go_sem, Ah, AD, AE, AU, Ba]
      subst hc14; refine Aw (by first | with_reducible rfl | (simp -implicitDefEqProofs (disch := omega) [go_sem, Ah, AD, AE, AU, Ba] <;> omega)) rfl ?_; refine A1 fun cb hc18 => ?_; refine vcK ?_
      try simp -implicitDefEqProofs (disch := omega) [go_sem, Ah, AD, AE, AU, Ba]
      subst hc18; refine vcK ?_; simp -implicitDefEqProofs only [go_sem]; have e4 := Option.some.inj h; subst e4; have e4 := hret4 _ rfl; subst e4; replace h : some false = some r := hk4; have er := Option.some.inj h; subst er
      try simp -implicitDefEqProofs (disch := omega) [go_sem, Ah, AD, AE, AU, Ba]
      refine A2 (by exact A8 he4) (by first | with_reducible rfl | (simp -implicitDefEqProofs (disch := omega) [go_sem, Ah, AD, AE, AU, Ba] <;> omega)) nbA hK
     ·intro c30 h
      try simp (disch := omega) at c30
      try simp -implicitDefEqProofs (disch := omega) [go_sem, Ah, AD, AE, AU, Ba]
      obtain ⟨x19, hx19, h⟩ := A4 h; refine Cu.mk _ (fun _ _ hK => A3.eqA (args' := [.v (str ((a0.getD v5.toNat S55.zero).A5))]) (by first | with_reducible rfl | (simp -implicitDefEqProofs (disch := omega) [go_sem, Ah, AD, AE, AU, Ba] <;> omega)) (OW ((a0.getD v5.toNat S55.zero).A5) hx19 hK)) ?_
      try simp -implicitDefEqProofs (disch := omega) [go_sem, Ah, AD, AE, AU, Ba]
      refine A6 h (by first | with_reducible rfl | (simp -implicitDefEqProofs (disch := omega) [go_sem, Ah, AD, AE, AU, Ba] <;> omega)) ?_ ?_
      ·intro c29 h
       try simp (disch := omega) at c29
       try simp -implicitDefEqProofs (disch := omega) [go_sem, Ah, AD, AE, AU, Ba]
       subst hc14; refine Aw (by first | with_reducible rfl | (simp -implicitDefEqProofs (disch := omega) [go_sem, Ah, AD, AE, AU, Ba] <;> omega)) rfl ?_; refine A1 fun cb hc20 => ?_; refine vcK ?_
       try simp -implicitDefEqProofs (disch := omega) [go_sem, Ah, AD, AE, AU, Ba]
       subst hc20; refine vcK ?_; simp -implicitDefEqProofs only [go_sem]; have e4 := Option.some.inj h; subst e4; have e4 := hret4 _ rfl; subst e4; replace h : some false = some r := hk4; have er := Option.some.inj h; subst er
       try simp -implicitDefEqProofs (disch := omega) [go_sem, Ah, AD, AE, AU, Ba]
       refine A2 (by exact A8 he4) (by first | with_reducible rfl | (simp -implicitDefEqProofs (disch := omega) [go_sem, Ah, AD, AE, AU, Ba] <;> omega)) nbA hK
      ·intro c29 h
       try simp (disch := omega) at c29
       try simp -implicitDefEqProofs (disch := omega) [go_sem, Ah, AD, AE, AU, Ba]
       refine A6 h (by first | with_reducible rfl | (simp -implicitDefEqProofs (disch := omega) [go_sem, Ah, AD, AE, AU, Ba] <;> omega)) ?_ ?_
       ·intro c28 h
        try simp (disch := omega) at c28
        try simp -implicitDefEqProofs (disch := omega) [go_sem, Ah, AD, AE, AU, Ba]
        subst hc14; refine Aw (by first | with_reducible rfl | (simp -implicitDefEqProofs (disch := omega) [go_sem, Ah, AD, AE, AU, Ba] <;> omega)) rfl ?_; refine A1 fun cb hc21 => ?_; refine vcK ?_
        try simp -implicitDefEqProofs (disch := omega) [go_sem, Ah, AD, AE, AU, Ba]
        subst hc21; refine vcK ?_; simp -implicitDefEqProofs only [go_sem]; have e4 := Option.some.inj h; subst e4; have e4 := hret4 _ rfl; subst e4; replace h : some false = some r := hk4; have er := Option.some.inj h; subst er
        try simp -implicitDefEqProofs (disch := omega) [go_sem, Ah, AD, AE, AU, Ba]
        refine A2 (by exact A8 he4) (by first | with_reducible rfl | (simp -implicitDefEqProofs (disch := omega) [go_sem, Ah, AD, AE, AU, Ba] <;> omega)) nbA hK
       ·intro c28 h
        try simp (disch := omega) at c28
        try simp -implicitDefEqProofs (disch := omega) [go_sem, Ah, AD, AE, AU, Ba]
        refine A6 h (by first | with_reducible rfl | (simp -implicitDefEqProofs (disch := omega) [go_sem, Ah, AD, AE, AU, Ba] <;> omega)) ?_ ?_
        ·intro c27 h
         try simp (disch := omega) at c27
         try simp -implicitDefEqProofs (disch := omega) [go_sem, Ah, AD, AE, AU, Ba]
         subst hc14; refine Aw (by first | with_reducible rfl | (simp -implicitDefEqProofs (disch := omega) [go_sem, Ah, AD, AE, AU, Ba] <;> omega)) rfl ?_; refine A1 fun cb hc22 => ?_; refine vcK ?_
         try simp -implicitDefEqProofs (disch := omega) [go_sem, Ah, AD, AE, AU, Ba]
         subst hc22; refine vcK ?_; simp -implicitDefEqProofs only [go_sem]; have e4 := Option.some.inj h; subst e4; have e4 := hret4 _ rfl; subst e4; replace h : some false = some r := hk4; have er := Option.some.inj h; subst er
         try simp -implicitDefEqProofs (disch := omega) [go_sem, Ah, AD, AE, AU, Ba]
         refine A2 (by exact A8 he4) (by first | with_reducible rfl | (simp -implicitDefEqProofs (disch := omega) [go_sem, Ah, AD, AE, AU, Ba] <;> omega)) nbA hK
        ·intro c27 h
         try simp (disch := omega) at c27
         try simp -implicitDefEqProofs (disch := omega) [go_sem, Ah, AD, AE, AU, Ba]
         refine A6 h (by first | with_reducible rfl | (simp -implicitDefEqProofs (disch := omega) [go_sem, Ah, AD, AE, AU, Ba] <;> omega)) ?_ ?_
         ·intro c26 h
          try simp (disch := omega) at c26
          obtain ⟨g23, h⟩ := A7.1 h
          try simp (disch := omega) at g23
          try simp -implicitDefEqProofs (disch := omega) [go_sem, Ah, AD, AE, AU, Ba]
          subst hc14; refine Aa h (by first | with_reducible rfl | (simp -implicitDefEqProofs (disch := omega) [go_sem, Ah, AD, AE, AU, Ba] <;> omega)) rfl ?_ ?_
          ·intro c24 h
           try simp (disch := omega) at c24
           refine A1 fun cb hc25 => ?_; refine vcK ?_
           try simp -implicitDefEqProofs (disch := omega) [go_sem, Ah, AD, AE, AU, Ba]
           subst hc25; refine vcK ?_; simp -implicitDefEqProofs only [go_sem]; have e4 := Option.some.inj h; subst e4; have e4 := hret4 _ rfl; subst e4; replace h : some false = some r := hk4; have er := Option.some.inj h; subst er
           try simp -implicitDefEqProofs (disch := omega) [go_sem, Ah, AD, AE, AU, Ba]
           refine A2 (by exact A8 he4) (by first | with_reducible rfl | (simp -implicitDefEqProofs (disch := omega) [go_sem, Ah, AD, AE, AU, Ba] <;> omega)) nbA hK
          ·intro c24 h
           try simp (disch := omega) at c24
           refine vcK ?_; simp -implicitDefEqProofs only [go_sem]; subst hc11; refine vcK ?_
           try simp -implicitDefEqProofs (disch := omega) [go_sem, Ah, AD, AE, AU, Ba]
           have e4 := Option.some.inj h; subst e4; refine Au hI4 (IntKind.i64.wrap (v5 + 1)) ?_; refine .same ⟨by exact A8 he4, by first | with_reducible rfl | with_reducible assumption | omega | (simp -implicitDefEqProofs (disch := omega) [go_sem, Ah, AD, AE, AU, Ba] <;> omega), ?_, ?_, ?_, ?_, ?_⟩ <;> first | with_reducible rfl | with_reducible assumption | (simp -implicitDefEqProofs (disch := omega) [go_sem, Ah, AD, AE, AU, Ba] <;> omega)
         ·intro c26 h
          try simp (disch := omega) at c26
          try simp -implicitDefEqProofs (disch := omega) [go_sem, Ah, AD, AE, AU, Ba]
          subst hc14; refine BN (by first | with_reducible rfl | (simp -implicitDefEqProofs (disch := omega) [go_sem, Ah, AD, AE, AU, Ba] <;> omega)) rfl ?_; refine vcK ?_; simp -implicitDefEqProofs only [go_sem]; subst hc11; refine vcK ?_
          try simp -implicitDefEqProofs (disch := omega) [go_sem, Ah, AD, AE, AU, Ba]
          have e4 := Option.some.inj h; subst e4; refine Au hI4 (IntKind.i64.wrap (v5 + 1)) ?_; refine .same ⟨by exact A8 he4, by first | with_reducible rfl | with_reducible assumption | omega | (simp -implicitDefEqProofs (disch := omega) [go_sem, Ah, AD, AE, AU, Ba] <;> omega), ?_, ?_, ?_, ?_, ?_⟩ <;> first | with_reducible rfl | with_reducible assumption | (simp -implicitDefEqProofs (disch := omega) [go_sem, Ah, AD, AE, AU, Ba] <;> omega)
   ·intro c10 h
    try simp (disch := omega) at c10
    refine vcK ?_; simp -implicitDefEqProofs only [go_sem]; have e4 := Option.some.inj h; subst e4; have hy4 := hret4 _ rfl; refine hc4 _ _ ?_; refine .same ⟨hy4, by exact A8 he4, by first | with_reducible rfl | with_reducible assumption | omega | (simp -implicitDefEqProofs (disch := omega) [go_sem, Ah, AD, AE, AU, Ba] <;> omega), ?_, ?_⟩ <;> first | with_reducible rfl | with_reducible assumption | (simp -implicitDefEqProofs (disch := omega) [go_sem, Ah, AD, AE, AU, Ba] <;> omega)
noncomputable def Mi (v9 : List UInt8) : Option (List UInt8) :=
 some v9
noncomputable def Mj (a0 : List (List UInt8)) (v6 : List UInt8) (v8 : Int) : Option (((List UInt8) × Int) ⊕ (List UInt8)) :=
 if v8 < (a0.length : Int) then (gd (0 ≤ v8 ∧ v8 < a0.length) (gd ((v6.length + (a0.getD v8.toNat []).length) * 1 ≤ 140737488355328) (gd (((v6 ++ (a0.getD v8.toNat [])).length + ([13, 10] : List UInt8).length) * 1 ≤ 140737488355328) (some (.inl (((v6 ++ (a0.getD v8.toNat [])) ++ ([13, 10] : List UInt8), IntKind.i64.wrap (v8 + 1)))))))) else (some (.inr v6))
noncomputable def F42 (a0 : List (List UInt8)) : Option (List UInt8) :=
 (B3 (fun (s : (List UInt8) × Int) => Mj a0 s.1 s.2) ([], 0)).bind fun (e : (List UInt8)) => Mi e
set_option maxHeartbeats 8000000 in
set_option pp.deepTerms false in
set_option maxRecDepth 60000 in
theorem Th {H : A0} {K : Am → A0 → Prop} (a0 : List (List UInt8)) {r : (List UInt8)} (h : F42 a0 = some r) (hK : K (.ret (.sl 1 (r.map fun x => [.v (.int .u8 x.toNat)]))) H) : A3 prog 42 [.sl 1 (a0.map fun x => [.v (str x)])] H K := by
 refine A9 (N := 19) func42 (by kernel_rfl) rfl (by kernel_rfl) (by kernel_rfl) fun cb hcb hw hbd hnb => ?_; clear hbd hnb; subst hcb; unfold F42 at h; refine A1 fun cb hc1 => ?_; refine vcK ?_
 try simp -implicitDefEqProofs (disch := omega) [go_sem]
 subst hc1; refine A1 fun cb hc2 => ?_; refine vcK ?_
 try simp -implicitDefEqProofs (disch := omega) [go_sem]
 subst hc2; refine A1 fun cb hc3 => ?_; refine A1 fun cb hc4 => ?_; refine vcK ?_
 try simp -implicitDefEqProofs (disch := omega) [go_sem]
 subst hc4; obtain ⟨y5, hl5q, hk5⟩ := A4 h; refine AW (fun tm' H' => ∃ n10 : Nat, ∃ v9 : List UInt8, v9 = y5 ∧ Ext H H' ∧ H.next ≤ H'.next ∧ H.next ≤ n10 ∧ n10 < H'.next ∧ tm' 3 = .os n10 v9.length ∧ H'.obj n10 = some (.row 1 (v9.map fun x => [.v (.int .u8 x.toNat)]))) ?_ fun cb hc5 => ?_
 ·rintro tm5e H5e ⟨n10, v9, rfl, he5e, hl5e, hr0_5e, hs0_5e, t3_5e, or0_5e⟩
  have h : Mi v9 = some r := hk5; unfold Mi at h; simp -implicitDefEqProofs only [go_sem]; subst hc3; refine A1 fun cb hc11 => ?_; refine vcK ?_
  try simp -implicitDefEqProofs (disch := omega) [go_sem, t3_5e, or0_5e]
  subst hc11; refine IWp.gh (Gh.freeze (d := 2) (k := n10) (sz := 1) (es := v9.map fun x => [.v (.int .u8 x.toNat)]) (by (simp -implicitDefEqProofs (disch := omega) [go_sem, t3_5e, or0_5e] <;> omega)) (by (simp -implicitDefEqProofs (disch := omega) [go_sem, t3_5e, or0_5e] <;> omega))) ?_; refine vcK ?_; simp -implicitDefEqProofs only [go_sem]; have er := Option.some.inj h; subst er
  try simp -implicitDefEqProofs (disch := omega) [go_sem, t3_5e, or0_5e]
  refine A2 (by exact A8 he5e) (by first | with_reducible rfl | (simp -implicitDefEqProofs (disch := omega) [go_sem, t3_5e, or0_5e] <;> omega)) nbA hK
 ·refine Af ?_; refine AN (fun (s : (List UInt8) × Int) tm' H' => ∃ n7 : Nat, Ext H H' ∧ H.next ≤ H'.next ∧ H.next ≤ n7 ∧ n7 < H'.next ∧ tm' 3 = .os n7 s.1.length ∧ tm' 6 = .sl 1 (a0.map fun x => [.v (str x)]) ∧ tm' 7 = .v (.int .i64 (a0.length : Int)) ∧ tm' 8 = .v (.int .i64 s.2) ∧ H'.obj n7 = some (.row 1 (s.1.map fun x => [.v (.int .u8 x.toNat)]))) hl5q ?_ ?_
  ·refine UpI.gh (Gh.J_ (d := 3) (sz := 1) (by omega) (by (simp -implicitDefEqProofs (disch := omega) [go_sem] <;> omega))) ?_; refine .same ⟨H.next, by exact A8 (Ext.refl hw), by first | with_reducible rfl | with_reducible assumption | omega | (simp -implicitDefEqProofs (disch := omega) [go_sem] <;> omega), by first | with_reducible rfl | with_reducible assumption | omega | (simp -implicitDefEqProofs (disch := omega) [go_sem] <;> omega), by first | with_reducible rfl | with_reducible assumption | omega | (simp -implicitDefEqProofs (disch := omega) [go_sem] <;> omega), ?_, ?_, ?_, ?_, ?_⟩ <;> first | with_reducible rfl | with_reducible assumption | (simp -implicitDefEqProofs (disch := omega) [go_sem] <;> omega)
  ·rintro I5 hI5 ⟨v6, v8⟩ x5 tm5 H5 ⟨n7, he5, hl5, OX, OY, By, AY, Av, Al, AJ⟩ h hret5
   replace h : Mj a0 v6 v8 = some x5 := h; unfold Mj at h; refine A1 fun cb hc12 => ?_; refine vcK ?_
   try simp -implicitDefEqProofs (disch := omega) [go_sem, By, AY, Av, Al, AJ]
   subst hc12; refine A1 fun cb hc13 => ?_; refine Aa h (by first | with_reducible rfl | (simp -implicitDefEqProofs (disch := omega) [go_sem, By, AY, Av, Al, AJ] <;> omega)) rfl ?_ ?_
   ·intro c14 h
    try simp (disch := omega) at c14
    refine vcK ?_; simp -implicitDefEqProofs only [go_sem]; subst hc13; refine A1 fun cb hc15 => ?_; refine Af ?_; refine A1 fun cb hc16 => ?_; refine vcK ?_; obtain ⟨g17, h⟩ := A7.1 h
    try simp (disch := omega) at g17
    try simp -implicitDefEqProofs (disch := omega) [go_sem, By, AY, Av, Al, AJ]
    subst hc16; refine vcK ?_; obtain ⟨g18, h⟩ := A7.1 h
    try simp (disch := omega) at g18
    obtain ⟨g19, h⟩ := A7.1 h
    try simp (disch := omega) at g19
    try simp -implicitDefEqProofs (disch := omega) [go_sem, By, AY, Av, Al, AJ]
    subst hc15; refine vcK ?_
    try simp -implicitDefEqProofs (disch := omega) [go_sem, By, AY, Av, Al, AJ]
    have e5 := Option.some.inj h; subst e5; refine Au hI5 (((v6 ++ (a0.getD v8.toNat [])) ++ ([13, 10] : List UInt8), IntKind.i64.wrap (v8 + 1))) ?_; refine .same ⟨n7, by exact A8 he5, by first | with_reducible rfl | with_reducible assumption | omega | (simp -implicitDefEqProofs (disch := omega) [go_sem, By, AY, Av, Al, AJ] <;> omega), by first | with_reducible rfl | with_reducible assumption | omega | (simp -implicitDefEqProofs (disch := omega) [go_sem, By, AY, Av, Al, AJ] <;> omega), by first | with_reducible rfl | with_reducible assumption | omega | (simp -implicitDefEqProofs (disch := omega) [go_sem, By, AY, Av, Al, AJ] <;> omega), ?_, ?_, ?_, ?_, ?_⟩ <;> first | with_reducible rfl | with_reducible assumption | (simp -implicitDefEqProofs (disch := omega) [go_sem, By, AY, Av, Al, AJ] <;> omega)
   ·intro c14 h
    try simp (disch := omega) at c14
    refine vcK ?_; simp -implicitDefEqProofs only [go_sem]; have e5 := Option.some.inj h; subst e5; have hy5 := hret5 _ rfl; refine hc5 _ _ ?_; refine .same ⟨n7, v6, hy5, by exact A8 he5, by first | with_reducible rfl | with_reducible assumption | omega | (simp -implicitDefEqProofs (disch := omega) [go_sem, By, AY, Av, Al, AJ] <;> omega), by first | with_reducible rfl | with_reducible assumption | omega | (simp -implicitDefEqProofs (disch := omega) [go_sem, By, AY, Av, Al, AJ] <;> omega), by first | with_reducible rfl | with_reducible assumption | omega | (simp -implicitDefEqProofs (disch := omega) [go_sem, By, AY, Av, Al, AJ] <;> omega), ?_, ?_⟩ <;> first | with_reducible rfl | with_reducible assumption | (simp -implicitDefEqProofs (disch := omega) [go_sem, By, AY, Av, Al, AJ] <;> omega)
end Go.Idl
namespace Go.Idl
open Go Go.Proofs.Tryz
noncomputable def Mk (a2 : List UInt8) (v9 : List (List UInt8)) : Option (List UInt8) :=
 gd ((v9.length + ([a2, []]).length) * 16 ≤ 140737488355328) ((F42 (v9 ++ ([a2, []]))).bind fun (x13 : (List UInt8)) => some x13)
noncomputable def Ml (a1 : List S55) (v6 : List (List UInt8)) (v8 : Int) : Option (((List (List UInt8)) × Int) ⊕ ((List (List UInt8)))) :=
 if v8 < (a1.length : Int) then (gd (0 ≤ v8 ∧ v8 < a1.length) (gd ((((a1.getD v8.toNat S55.zero).fName).length : Int) + (([58, 32]) : List UInt8).length ≤ 9223372036854775807) (gd (((((a1.getD v8.toNat S55.zero).fName) ++ (([58, 32]) : List UInt8)).length : Int) + ((a1.getD v8.toNat S55.zero).A5).length ≤ 9223372036854775807) (gd ((v6.length + ([(((a1.getD v8.toNat S55.zero).fName) ++ (([58, 32]) : List UInt8)) ++ ((a1.getD v8.toNat S55.zero).A5)]).length) * 16 ≤ 140737488355328) (some (.inl ((v6 ++ ([(((a1.getD v8.toNat S55.zero).fName) ++ (([58, 32]) : List UInt8)) ++ ((a1.getD v8.toNat S55.zero).A5)]), IntKind.i64.wrap (v8 + 1))))))))) else (some (.inr v6))
noncomputable def F28 (a0 : List UInt8) (a1 : List S55) (a2 : List UInt8) : Option (List UInt8) :=
 (B3 (fun (s : (List (List UInt8)) × Int) => Ml a1 s.1 s.2) (([a0]), 0)).bind fun (e : (List (List UInt8))) => Mk a2 e
set_option maxHeartbeats 8000000 in
set_option pp.deepTerms false in
set_option maxRecDepth 60000 in
theorem XV {H : A0} {K : Am → A0 → Prop} (a0 : List UInt8) (a1 : List S55) (a2 : List UInt8) {r : (List UInt8)} (h : F28 a0 a1 a2 = some r) (hK : K (.ret (.sl 1 (r.map fun x => [.v (.int .u8 x.toNat)]))) H) : A3 prog 28 [.v (str a0), .sl 2 (a1.map fun x => [.v (str x.fName), .v (str x.A5)]), .v (str a2)] H K := by
 refine A9 (N := 33) func28 (by kernel_rfl) rfl (by kernel_rfl) (by kernel_rfl) fun cb hcb hw hbd hnb => ?_; clear hbd hnb; subst hcb; unfold F28 at h; refine A1 fun cb hc1 => ?_; refine vcK ?_
 try simp -implicitDefEqProofs (disch := omega) [go_sem]
 subst hc1; refine A1 fun cb hc2 => ?_; refine Ch [false, true] (by kernel_rfl) ?_
 try simp -implicitDefEqProofs (disch := omega) [go_sem]
 refine G3 (sz := 1) (rs := (([a0]).map fun x => [.v (str x)]).flatten) (es := ([a0]).map fun x => [.v (str x)]) rfl (by kernel_rfl) (by simp -implicitDefEqProofs (disch := omega) [go_sem]) (by first | rfl | simp [chunks]) (by simp) (by decide) ?_
 try simp -implicitDefEqProofs (disch := omega) [go_sem]
 subst hc2; refine A1 fun cb hc3 => ?_; refine A1 fun cb hc4 => ?_; refine vcK ?_
 try simp -implicitDefEqProofs (disch := omega) [go_sem]
 subst hc4; obtain ⟨y5, hl5q, hk5⟩ := A4 h; refine AW (fun tm' H' => ∃ n10 : Nat, ∃ v9 : List (List UInt8), v9 = y5 ∧ Ext H H' ∧ H.next + 1 ≤ H'.next ∧ H.next ≤ n10 ∧ n10 < H'.next ∧ tm' 2 = .v (str a2) ∧ tm' 7 = .os n10 v9.length ∧ H'.obj n10 = some (.row 1 (v9.map fun x => [.v (str x)]))) ?_ fun cb hc5 => ?_
 ·rintro tm5e H5e ⟨n10, v9, rfl, he5e, hl5e, hr0_5e, hs0_5e, t2_5e, t7_5e, or0_5e⟩
  have h : Mk a2 v9 = some r := hk5; unfold Mk at h; simp -implicitDefEqProofs only [go_sem]; subst hc3; refine A1 fun cb hc11 => ?_; refine vcK ?_; obtain ⟨g12, h⟩ := A7.1 h
  try simp (disch := omega) at g12
  try simp -implicitDefEqProofs (disch := omega) [go_sem, t2_5e, t7_5e, or0_5e]
  refine A3.fz (k := n10) (args' := [.sl 1 ((v9 ++ ([a2, []])).map fun x => [.v (str x)])]) (by repeat (first | exact Fi.nil | refine Fi.cons ?_ ?_ | exact FzK.row _ _ _ (by simp -implicitDefEqProofs (disch := omega) [go_sem, t2_5e, t7_5e, or0_5e]) (by first | (simp; done) | (simp; omega)) | exact FzK.same _)) ?_; obtain ⟨x13, hx13, h⟩ := A4 h; refine A3.eqA (args' := [.sl 1 ((v9 ++ ([a2, []])).map fun x => [.v (str x)])]) (by first | with_reducible rfl | (simp -implicitDefEqProofs (disch := omega) [go_sem, t2_5e, t7_5e, or0_5e] <;> omega)) (Th (v9 ++ ([a2, []])) hx13 ?_)
  try simp -implicitDefEqProofs (disch := omega) [go_sem, t2_5e, t7_5e, or0_5e]
  subst hc11; refine vcK ?_; simp -implicitDefEqProofs only [go_sem]; have er := Option.some.inj h; subst er
  try simp -implicitDefEqProofs (disch := omega) [go_sem, t2_5e, t7_5e, or0_5e]
  refine A2 (by exact A8 he5e) (by first | with_reducible rfl | (simp -implicitDefEqProofs (disch := omega) [go_sem, t2_5e, t7_5e, or0_5e] <;> omega)) nbA hK
 ·refine Af ?_; refine AN (fun (s : (List (List UInt8)) × Int) tm' H' => ∃ n7 : Nat, Ext H H' ∧ H.next + 1 ≤ H'.next ∧ H.next ≤ n7 ∧ n7 < H'.next ∧ tm' 2 = .v (str a2) ∧ tm' 7 = .os n7 s.1.length ∧ tm' 12 = .sl 2 (a1.map fun x => [.v (str x.fName), .v (str x.A5)]) ∧ tm' 13 = .v (.int .i64 (a1.length : Int)) ∧ tm' 14 = .v (.int .i64 s.2) ∧ H'.obj n7 = some (.row 1 (s.1.map fun x => [.v (str x)]))) hl5q ?_ ?_
  ·refine .same ⟨H.next, by exact A8 (Ext.refl hw), by first | with_reducible rfl | with_reducible assumption | omega | (simp -implicitDefEqProofs (disch := omega) [go_sem] <;> omega), by first | with_reducible rfl | with_reducible assumption | omega | (simp -implicitDefEqProofs (disch := omega) [go_sem] <;> omega), by first | with_reducible rfl | with_reducible assumption | omega | (simp -implicitDefEqProofs (disch := omega) [go_sem] <;> omega), ?_, ?_, ?_, ?_, ?_, ?_⟩ <;> first | with_reducible rfl | with_reducible assumption | (simp -implicitDefEqProofs (disch := omega) [go_sem] <;> omega)
  ·rintro I5 hI5 ⟨v6, v8⟩ x5 tm5 H5 ⟨n7, he5, hl5, OX, OY, CG, Av, BR, BS, BT, AJ⟩ h hret5
   replace h : Ml a1 v6 v8 = some x5 := h; unfold Ml at h; refine A1 fun cb hc14 => ?_; refine vcK ?_
   try simp -implicitDefEqProofs (disch := omega) [go_sem, CG, Av, BR, BS, BT, AJ]
   subst hc14; refine A1 fun cb hc15 => ?_; refine Aa h (by first | with_reducible rfl | (simp -implicitDefEqProofs (disch := omega) [go_sem, CG, Av, BR, BS, BT, AJ] <;> omega)) rfl ?_ ?_
   ·intro c16 h
    try simp (disch := omega) at c16
    refine vcK ?_; simp -implicitDefEqProofs only [go_sem]; subst hc15; refine A1 fun cb hc17 => ?_; refine Af ?_; refine A1 fun cb hc18 => ?_; refine vcK ?_; obtain ⟨g19, h⟩ := A7.1 h
    try simp (disch := omega) at g19
    try simp -implicitDefEqProofs (disch := omega) [go_sem, CG, Av, BR, BS, BT, AJ]
    subst hc18; refine vcK ?_; obtain ⟨g20, h⟩ := A7.1 h
    try simp (disch := omega) at g20
    obtain ⟨g21, h⟩ := A7.1 h
    try simp (disch := omega) at g21
    obtain ⟨g22, h⟩ := A7.1 h
    try simp (disch := omega) at g22
    try simp -implicitDefEqProofs (disch := omega) [go_sem, CG, Av, BR, BS, BT, AJ]
    subst hc17; refine vcK ?_
    try simp -implicitDefEqProofs (disch := omega) [go_sem, CG, Av, BR, BS, BT, AJ]
    have e5 := Option.some.inj h; subst e5; refine Au hI5 ((v6 ++ ([(((a1.getD v8.toNat S55.zero).fName) ++ (([58, 32]) : List UInt8)) ++ ((a1.getD v8.toNat S55.zero).A5)]), IntKind.i64.wrap (v8 + 1))) ?_; refine .same ⟨n7, by exact A8 he5, by first | with_reducible rfl | with_reducible assumption | omega | (simp -implicitDefEqProofs (disch := omega) [go_sem, CG, Av, BR, BS, BT, AJ] <;> omega), by first | with_reducible rfl | with_reducible assumption | omega | (simp -implicitDefEqProofs (disch := omega) [go_sem, CG, Av, BR, BS, BT, AJ] <;> omega), by first | with_reducible rfl | with_reducible assumption | omega | (simp -implicitDefEqProofs (disch := omega) [go_sem, CG, Av, BR, BS, BT, AJ] <;> omega), ?_, ?_, ?_, ?_, ?_, ?_⟩ <;> first | with_reducible rfl | with_reducible assumption | (simp -implicitDefEqProofs (disch := omega) [go_sem, CG, Av, BR, BS, BT, AJ] <;> omega)
   ·intro c16 h
    try simp (disch := omega) at c16
    refine vcK ?_; simp -implicitDefEqProofs only [go_sem]; have e5 := Option.some.inj h; subst e5; have hy5 := hret5 _ rfl; refine hc5 _ _ ?_; refine .same ⟨n7, v6, hy5, by exact A8 he5, by first | with_reducible rfl | with_reducible assumption | omega | (simp -implicitDefEqProofs (disch := omega) [go_sem, CG, Av, BR, BS, BT, AJ] <;> omega), by first | with_reducible rfl | with_reducible assumption | omega | (simp -implicitDefEqProofs (disch := omega) [go_sem, CG, Av, BR, BS, BT, AJ] <;> omega), by first | with_reducible rfl | with_reducible assumption | omega | (simp -implicitDefEqProofs (disch := omega) [go_sem, CG, Av, BR, BS, BT, AJ] <;> omega), ?_, ?_, ?_⟩ <;> first | with_reducible rfl | with_reducible assumption | (simp -implicitDefEqProofs (disch := omega) [go_sem, CG, Av, BR, BS, BT, AJ] <;> omega)
noncomputable def IF (v9 : List UInt8) : Option (List UInt8) :=
 some v9
noncomputable def Da (a0 : List (List UInt8)) (v6 : List UInt8) (v8 : Int) : Option (((List UInt8) × Int) ⊕ (List UInt8)) :=
 if v8 < (a0.length : Int) then (gd (0 ≤ v8 ∧ v8 < a0.length) (gd ((v6.length + (a0.getD v8.toNat []).length) * 1 ≤ 140737488355328) (gd (((v6 ++ (a0.getD v8.toNat [])).length + ([13, 10] : List UInt8).length) * 1 ≤ 140737488355328) (some (.inl (((v6 ++ (a0.getD v8.toNat [])) ++ ([13, 10] : List UInt8), IntKind.i64.wrap (v8 + 1)))))))) else (some (.inr v6))
noncomputable def Lc (a0 : List (List UInt8)) : Option (List UInt8) :=
 (B3 (fun (s : (List UInt8) × Int) => Da a0 s.1 s.2) ([], 0)).bind fun (e : (List UInt8)) => IF e
set_option maxHeartbeats 8000000 in
set_option pp.deepTerms false in
set_option maxRecDepth 60000 in
theorem OZ {H : A0} {K : Am → A0 → Prop} (a0 : List (List UInt8)) {r : (List UInt8)} (h : Lc a0 = some r) (hK : K (.ret (.os H.next r.length)) (newL H [.row 1 (r.map fun x => [.v (.int .u8 x.toNat)])])) : A3 prog 42 [.sl 1 (a0.map fun x => [.v (str x)])] H K := by
 refine A9 (N := 19) func42 (by kernel_rfl) rfl (by kernel_rfl) (by kernel_rfl) fun cb hcb hw hbd hnb => ?_; clear hbd hnb; subst hcb; unfold Lc at h; refine A1 fun cb hc1 => ?_; refine vcK ?_
 try simp -implicitDefEqProofs (disch := omega) [go_sem]
 subst hc1; refine A1 fun cb hc2 => ?_; refine vcK ?_
 try simp -implicitDefEqProofs (disch := omega) [go_sem]
 subst hc2; refine A1 fun cb hc3 => ?_; refine A1 fun cb hc4 => ?_; refine vcK ?_
 try simp -implicitDefEqProofs (disch := omega) [go_sem]
 subst hc4; obtain ⟨y5, hl5q, hk5⟩ := A4 h; refine AW (fun tm' H' => ∃ n10 : Nat, ∃ v9 : List UInt8, v9 = y5 ∧ Ext H H' ∧ H.next ≤ H'.next ∧ H.next ≤ n10 ∧ n10 < H'.next ∧ tm' 3 = .os n10 v9.length ∧ H'.obj n10 = some (.row 1 (v9.map fun x => [.v (.int .u8 x.toNat)]))) ?_ fun cb hc5 => ?_
 ·rintro tm5e H5e ⟨n10, v9, rfl, he5e, hl5e, hr0_5e, hs0_5e, t3_5e, or0_5e⟩
  have h : IF v9 = some r := hk5; unfold IF at h; simp -implicitDefEqProofs only [go_sem]; subst hc3; refine A1 fun cb hc11 => ?_; refine vcK ?_
  try simp -implicitDefEqProofs (disch := omega) [go_sem, t3_5e, or0_5e]
  subst hc11; refine vcK ?_; simp -implicitDefEqProofs only [go_sem]; have er := Option.some.inj h; subst er
  try simp -implicitDefEqProofs (disch := omega) [go_sem, t3_5e, or0_5e]
  refine K4 (r := .os n10 v9.length) (r' := .os H.next v9.length) (by first | with_reducible rfl | (simp -implicitDefEqProofs (disch := omega) [go_sem] <;> omega)) (Iu (by exact A8 he5e) (ks := [n10]) (os := [.row 1 (v9.map fun x => [.v (.int .u8 x.toNat)])]) (.cons (o := .row 1 (v9.map fun x => [.v (.int .u8 x.toNat)])) (by first | omega | (simp [go_sem]; done) | (simp [go_sem]; omega)) (by first | omega | (simp [go_sem]; done) | (simp [go_sem]; omega)) (by simp -implicitDefEqProofs (disch := omega) [go_sem, t3_5e, or0_5e]) (.same _ (Iy fun _ => by first | exact nbA | exact BP | exact BB)) .nil) (by simp)) (.osR (k := H.next) (by simp [Ca]) (by simp [go_sem]) rfl) hK
 ·refine Af ?_; refine AN (fun (s : (List UInt8) × Int) tm' H' => ∃ n7 : Nat, Ext H H' ∧ H.next ≤ H'.next ∧ H.next ≤ n7 ∧ n7 < H'.next ∧ tm' 3 = .os n7 s.1.length ∧ tm' 6 = .sl 1 (a0.map fun x => [.v (str x)]) ∧ tm' 7 = .v (.int .i64 (a0.length : Int)) ∧ tm' 8 = .v (.int .i64 s.2) ∧ H'.obj n7 = some (.row 1 (s.1.map fun x => [.v (.int .u8 x.toNat)]))) hl5q ?_ ?_
  ·refine UpI.gh (Gh.J_ (d := 3) (sz := 1) (by omega) (by (simp -implicitDefEqProofs (disch := omega) [go_sem] <;> omega))) ?_; refine .same ⟨H.next, by exact A8 (Ext.refl hw), by first | with_reducible rfl | with_reducible assumption | omega | (simp -implicitDefEqProofs (disch := omega) [go_sem] <;> omega), by first | with_reducible rfl | with_reducible assumption | omega | (simp -implicitDefEqProofs (disch := omega) [go_sem] <;> omega), by first | with_reducible rfl | with_reducible assumption | omega | (simp -implicitDefEqProofs (disch := omega) [go_sem] <;> omega), ?_, ?_, ?_, ?_, ?_⟩ <;> first | with_reducible rfl | with_reducible assumption | (simp -implicitDefEqProofs (disch := omega) [go_sem] <;> omega)
  ·rintro I5 hI5 ⟨v6, v8⟩ x5 tm5 H5 ⟨n7, he5, hl5, OX, OY, By, AY, Av, Al, AJ⟩ h hret5
   replace h : Da a0 v6 v8 = some x5 := h; unfold Da at h; refine A1 fun cb hc12 => ?_; refine vcK ?_
   try simp -implicitDefEqProofs (disch := omega) [go_sem, By, AY, Av, Al, AJ]
   subst hc12; refine A1 fun cb hc13 => ?_; refine Aa h (by first | with_reducible rfl | (simp -implicitDefEqProofs (disch := omega) [go_sem, By, AY, Av, Al, AJ] <;> omega)) rfl ?_ ?_
   ·intro c14 h
    try simp (disch := omega) at c14
    refine vcK ?_; simp -implicitDefEqProofs only [go_sem]; subst hc13; refine A1 fun cb hc15 => ?_; refine Af ?_; refine A1 fun cb hc16 => ?_; refine vcK ?_; obtain ⟨g17, h⟩ := A7.1 h
    try simp (disch := omega) at g17
    try simp -implicitDefEqProofs (disch := omega) [go_sem, By, AY, Av, Al, AJ]
    subst hc16; refine vcK ?_; obtain ⟨g18, h⟩ := A7.1 h
    try simp (disch := omega) at g18
    obtain ⟨g19, h⟩ := A7.1 h
    try simp (disch := omega) at g19
    try simp -implicitDefEqProofs (disch := omega) [go_sem, By, AY, Av, Al, AJ]
    subst hc15; refine vcK ?_
    try simp -implicitDefEqProofs (disch := omega) [go_sem, By, AY, Av, Al, AJ]
    have e5 := Option.some.inj h; subst e5; refine Au hI5 (((v6 ++ (a0.getD v8.toNat [])) ++ ([13, 10] : List UInt8), IntKind.i64.wrap (v8 + 1))) ?_; refine .same ⟨n7, by exact A8 he5, by first | with_reducible rfl | with_reducible assumption | omega | (simp -implicitDefEqProofs (disch := omega) [go_sem, By, AY, Av, Al, AJ] <;> omega), by first | with_reducible rfl | with_reducible assumption | omega | (simp -implicitDefEqProofs (disch := omega) [go_sem, By, AY, Av, Al, AJ] <;> omega), by first | with_reducible rfl | with_reducible assumption | omega | (simp -implicitDefEqProofs (disch := omega) [go_sem, By, AY, Av, Al, AJ] <;> omega), ?_, ?_, ?_, ?_, ?_⟩ <;> first | with_reducible rfl | with_reducible assumption | (simp -implicitDefEqProofs (disch := omega) [go_sem, By, AY, Av, Al, AJ] <;> omega)
   ·intro c14 h
    try simp (disch := omega) at c14
    refine vcK ?_; simp -implicitDefEqProofs only [go_sem]; have e5 := Option.some.inj h; subst e5; have hy5 := hret5 _ rfl; refine hc5 _ _ ?_; refine .same ⟨n7, v6, hy5, by exact A8 he5, by first | with_reducible rfl | with_reducible assumption | omega | (simp -implicitDefEqProofs (disch := omega) [go_sem, By, AY, Av, Al, AJ] <;> omega), by first | with_reducible rfl | with_reducible assumption | omega | (simp -implicitDefEqProofs (disch := omega) [go_sem, By, AY, Av, Al, AJ] <;> omega), by first | with_reducible rfl | with_reducible assumption | omega | (simp -implicitDefEqProofs (disch := omega) [go_sem, By, AY, Av, Al, AJ] <;> omega), ?_, ?_⟩ <;> first | with_reducible rfl | with_reducible assumption | (simp -implicitDefEqProofs (disch := omega) [go_sem, By, AY, Av, Al, AJ] <;> omega)
noncomputable def Gb (a2 : List UInt8) (v9 : List (List UInt8)) : Option (List UInt8) :=
 gd ((v9.length + ([a2, []]).length) * 16 ≤ 140737488355328) ((Lc (v9 ++ ([a2, []]))).bind fun (x13 : (List UInt8)) => some x13)
noncomputable def DN (a1 : List S55) (v6 : List (List UInt8)) (v8 : Int) : Option (((List (List UInt8)) × Int) ⊕ ((List (List UInt8)))) :=
 if v8 < (a1.length : Int) then (gd (0 ≤ v8 ∧ v8 < a1.length) (gd ((((a1.getD v8.toNat S55.zero).fName).length : Int) + (([58, 32]) : List UInt8).length ≤ 9223372036854775807) (gd (((((a1.getD v8.toNat S55.zero).fName) ++ (([58, 32]) : List UInt8)).length : Int) + ((a1.getD v8.toNat S55.zero).A5).length ≤ 9223372036854775807) (gd ((v6.length + ([(((a1.getD v8.toNat S55.zero).fName) ++ (([58, 32]) : List UInt8)) ++ ((a1.getD v8.toNat S55.zero).A5)]).length) * 16 ≤ 140737488355328) (some (.inl ((v6 ++ ([(((a1.getD v8.toNat S55.zero).fName) ++ (([58, 32]) : List UInt8)) ++ ((a1.getD v8.toNat S55.zero).A5)]), IntKind.i64.wrap (v8 + 1))))))))) else (some (.inr v6))
noncomputable def Ld (a0 : List UInt8) (a1 : List S55) (a2 : List UInt8) : Option (List UInt8) :=
 (B3 (fun (s : (List (List UInt8)) × Int) => DN a1 s.1 s.2) (([a0]), 0)).bind fun (e : (List (List UInt8))) => Gb a2 e
set_option maxHeartbeats 8000000 in
set_option pp.deepTerms false in
set_option maxRecDepth 60000 in
theorem O_ {H : A0} {K : Am → A0 → Prop} (a0 : List UInt8) (a1 : List S55) (a2 : List UInt8) {r : (List UInt8)} (h : Ld a0 a1 a2 = some r) (hK : K (.ret (.os H.next r.length)) (newL H [.row 1 (r.map fun x => [.v (.int .u8 x.toNat)])])) : A3 prog 28 [.v (str a0), .sl 2 (a1.map fun x => [.v (str x.fName), .v (str x.A5)]), .v (str a2)] H K := by
 refine A9 (N := 33) func28 (by kernel_rfl) rfl (by kernel_rfl) (by kernel_rfl) fun cb hcb hw hbd hnb => ?_; clear hbd hnb; subst hcb; unfold Ld at h; refine A1 fun cb hc1 => ?_; refine vcK ?_
 try simp -implicitDefEqProofs (disch := omega) [go_sem]
 subst hc1; refine A1 fun cb hc2 => ?_; refine Ch [false, true] (by kernel_rfl) ?_
 try simp -implicitDefEqProofs (disch := omega) [go_sem]
 refine G3 (sz := 1) (rs := (([a0]).map fun x => [.v (str x)]).flatten) (es := ([a0]).map fun x => [.v (str x)]) rfl (by kernel_rfl) (by simp -implicitDefEqProofs (disch := omega) [go_sem]) (by first | rfl | simp [chunks]) (by simp) (by decide) ?_
 try simp -implicitDefEqProofs (disch := omega) [go_sem]
 subst hc2; refine A1 fun cb hc3 => ?_; refine A1 fun cb hc4 => ?_; refine vcK ?_
 try simp -implicitDefEqProofs (disch := omega) [go_sem]
 subst hc4; obtain ⟨y5, hl5q, hk5⟩ := A4 h; refine AW (fun tm' H' => ∃ n10 : Nat, ∃ v9 : List (List UInt8), v9 = y5 ∧ Ext H H' ∧ H.next + 1 ≤ H'.next ∧ H.next ≤ n10 ∧ n10 < H'.next ∧ tm' 2 = .v (str a2) ∧ tm' 7 = .os n10 v9.length ∧ H'.obj n10 = some (.row 1 (v9.map fun x => [.v (str x)]))) ?_ fun cb hc5 => ?_
 ·rintro tm5e H5e ⟨n10, v9, rfl, he5e, hl5e, hr0_5e, hs0_5e, t2_5e, t7_5e, or0_5e⟩
  have h : Gb a2 v9 = some r := hk5; unfold Gb at h; simp -implicitDefEqProofs only [go_sem]; subst hc3; refine A1 fun cb hc11 => ?_; refine vcK ?_; obtain ⟨g12, h⟩ := A7.1 h
  try simp (disch := omega) at g12
  try simp -implicitDefEqProofs (disch := omega) [go_sem, t2_5e, t7_5e, or0_5e]
  refine A3.fz (k := n10) (args' := [.sl 1 ((v9 ++ ([a2, []])).map fun x => [.v (str x)])]) (by repeat (first | exact Fi.nil | refine Fi.cons ?_ ?_ | exact FzK.row _ _ _ (by simp -implicitDefEqProofs (disch := omega) [go_sem, t2_5e, t7_5e, or0_5e]) (by first | (simp; done) | (simp; omega)) | exact FzK.same _)) ?_; obtain ⟨x13, hx13, h⟩ := A4 h; refine A3.eqA (args' := [.sl 1 ((v9 ++ ([a2, []])).map fun x => [.v (str x)])]) (by first | with_reducible rfl | (simp -implicitDefEqProofs (disch := omega) [go_sem, t2_5e, t7_5e, or0_5e] <;> omega)) (OZ (v9 ++ ([a2, []])) hx13 ?_)
  try simp -implicitDefEqProofs (disch := omega) [go_sem, t2_5e, t7_5e, or0_5e]
  subst hc11; refine vcK ?_; simp -implicitDefEqProofs only [go_sem]; have er := Option.some.inj h; subst er
  try simp -implicitDefEqProofs (disch := omega) [go_sem, t2_5e, t7_5e, or0_5e]
  refine K4 (r := .os H5e.next x13.length) (r' := .os H.next x13.length) (by first | with_reducible rfl | (simp -implicitDefEqProofs (disch := omega) [go_sem] <;> omega)) (Iu (by exact A8 he5e) (ks := [H5e.next]) (os := [.row 1 (x13.map fun x => [.v (.int .u8 x.toNat)])]) (.cons (o := .row 1 (x13.map fun x => [.v (.int .u8 x.toNat)])) (by first | omega | (simp [go_sem]; done) | (simp [go_sem]; omega)) (by first | omega | (simp [go_sem]; done) | (simp [go_sem]; omega)) (by simp -implicitDefEqProofs (disch := omega) [go_sem, t2_5e, t7_5e, or0_5e]) (.same _ (Iy fun _ => by first | exact nbA | exact BP | exact BB)) .nil) (by simp)) (.osR (k := H.next) (by simp [Ca]) (by simp [go_sem]) rfl) hK
 ·refine Af ?_; refine AN (fun (s : (List (List UInt8)) × Int) tm' H' => ∃ n7 : Nat, Ext H H' ∧ H.next + 1 ≤ H'.next ∧ H.next ≤ n7 ∧ n7 < H'.next ∧ tm' 2 = .v (str a2) ∧ tm' 7 = .os n7 s.1.length ∧ tm' 12 = .sl 2 (a1.map fun x => [.v (str x.fName), .v (str x.A5)]) ∧ tm' 13 = .v (.int .i64 (a1.length : Int)) ∧ tm' 14 = .v (.int .i64 s.2) ∧ H'.obj n7 = some (.row 1 (s.1.map fun x => [.v (str x)]))) hl5q ?_ ?_
  ·refine .same ⟨H.next, by exact A8 (Ext.refl hw), by first | with_reducible rfl | with_reducible assumption | omega | (simp -implicitDefEqProofs (disch := omega) [go_sem] <;> omega), by first | with_reducible rfl | with_reducible assumption | omega | (simp -implicitDefEqProofs (disch := omega) [go_sem] <;> omega), by first | with_reducible rfl | with_reducible assumption | omega | (simp -implicitDefEqProofs (disch := omega) [go_sem] <;> omega), ?_, ?_, ?_, ?_, ?_, ?_⟩ <;> first | with_reducible rfl | with_reducible assumption | (simp -implicitDefEqProofs (disch := omega) [go_sem] <;> omega)
  ·rintro I5 hI5 ⟨v6, v8⟩ x5 tm5 H5 ⟨n7, he5, hl5, OX, OY, CG, Av, BR, BS, BT, AJ⟩ h hret5
   replace h : DN a1 v6 v8 = some x5 := h; unfold DN at h; refine A1 fun cb hc15 => ?_; refine vcK ?_
   try simp -implicitDefEqProofs (disch := omega) [go_sem, CG, Av, BR, BS, BT, AJ]
   subst hc15; refine A1 fun cb hc16 => ?_; refine Aa h (by first | with_reducible rfl | (simp -implicitDefEqProofs (disch := omega) [go_sem, CG, Av, BR, BS, BT, AJ] <;> omega)) rfl ?_ ?_
   ·intro c17 h
    try simp (disch := omega) at c17
    refine vcK ?_; simp -implicitDefEqProofs only [go_sem]; subst hc16; refine A1 fun cb hc18 => ?_; refine Af ?_; refine A1 fun cb hc19 => ?_; refine vcK ?_; obtain ⟨g20, h⟩ := A7.1 h
    try simp (disch := omega) at g20
    try simp -implicitDefEqProofs (disch := omega) [go_sem, CG, Av, BR, BS, BT, AJ]
    subst hc19; refine vcK ?_; obtain ⟨g21, h⟩ := A7.1 h
    try simp (disch := omega) at g21
    obtain ⟨g22, h⟩ := A7.1 h
    try simp (disch := omega) at g22
    obtain ⟨g23, h⟩ := A7.1 h
    try simp (disch := omega) at g23
    try simp -implicitDefEqProofs (disch := omega) [go_sem, CG, Av, BR, BS, BT, AJ]
    subst hc18; refine vcK ?_
    try simp -implicitDefEqProofs (disch := omega) [go_sem, CG, Av, BR, BS, BT, AJ]
    have e5 := Option.some.inj h; subst e5; refine Au hI5 ((v6 ++ ([(((a1.getD v8.toNat S55.zero).fName) ++ (([58, 32]) : List UInt8)) ++ ((a1.getD v8.toNat S55.zero).A5)]), IntKind.i64.wrap (v8 + 1))) ?_; refine .same ⟨n7, by exact A8 he5, by first | with_reducible rfl | with_reducible assumption | omega | (simp -implicitDefEqProofs (disch := omega) [go_sem, CG, Av, BR, BS, BT, AJ] <;> omega), by first | with_reducible rfl | with_reducible assumption | omega | (simp -implicitDefEqProofs (disch := omega) [go_sem, CG, Av, BR, BS, BT, AJ] <;> omega), by first | with_reducible rfl | with_reducible assumption | omega | (simp -implicitDefEqProofs (disch := omega) [go_sem, CG, Av, BR, BS, BT, AJ] <;> omega), ?_, ?_, ?_, ?_, ?_, ?_⟩ <;> first | with_reducible rfl | with_reducible assumption | (simp -implicitDefEqProofs (disch := omega) [go_sem, CG, Av, BR, BS, BT, AJ] <;> omega)
   ·intro c17 h
    try simp (disch := omega) at c17
    refine vcK ?_; simp -implicitDefEqProofs only [go_sem]; have e5 := Option.some.inj h; subst e5; have hy5 := hret5 _ rfl; refine hc5 _ _ ?_; refine .same ⟨n7, v6, hy5, by exact A8 he5, by first | with_reducible rfl | with_reducible assumption | omega | (simp -implicitDefEqProofs (disch := omega) [go_sem, CG, Av, BR, BS, BT, AJ] <;> omega), by first | with_reducible rfl | with_reducible assumption | omega | (simp -implicitDefEqProofs (disch := omega) [go_sem, CG, Av, BR, BS, BT, AJ] <;> omega), by first | with_reducible rfl | with_reducible assumption | omega | (simp -implicitDefEqProofs (disch := omega) [go_sem, CG, Av, BR, BS, BT, AJ] <;> omega), ?_, ?_, ?_⟩ <;> first | with_reducible rfl | with_reducible assumption | (simp -implicitDefEqProofs (disch := omega) [go_sem, CG, Av, BR, BS, BT, AJ] <;> omega)
noncomputable def F18 (a0 : S42) : Option ((List UInt8) × Int) :=
 (F45 a0.Ag).bind fun (x4 : Bool) => if ¬ (x4 = true) then (some ([], 2)) else ((F46 a0.Ax).bind fun (x6 : Bool) => if ¬ (x6 = true) then (some ([], 2)) else ((F27 a0.Aj a0.An).bind fun (x8 : Bool) => if ¬ (x8 = true) then (some ([], 2)) else (gd ((a0.Ag.length : Int) + (([32]) : List UInt8).length ≤ 9223372036854775807) (gd (((a0.Ag ++ (([32]) : List UInt8)).length : Int) + a0.Ax.length ≤ 9223372036854775807) (gd ((((a0.Ag ++ (([32]) : List UInt8)) ++ a0.Ax).length : Int) + (([32]) : List UInt8).length ≤ 9223372036854775807) (gd (((((a0.Ag ++ (([32]) : List UInt8)) ++ a0.Ax) ++ (([32]) : List UInt8)).length : Int) + (([72, 84, 84, 80, 47, 49, 46, 49]) : List UInt8).length ≤ 9223372036854775807) ((F29 (a0.An.length : Int)).bind fun (x16 : (List UInt8)) => gd (((([99, 111, 110, 116, 101, 110, 116, 45, 108, 101, 110, 103, 116, 104, 58, 32]) : List UInt8).length : Int) + x16.length ≤ 9223372036854775807) ((Ld ((((a0.Ag ++ (([32]) : List UInt8)) ++ a0.Ax) ++ (([32]) : List UInt8)) ++ (([72, 84, 84, 80, 47, 49, 46, 49]) : List UInt8)) a0.Aj ((([99, 111, 110, 116, 101, 110, 116, 45, 108, 101, 110, 103, 116, 104, 58, 32]) : List UInt8) ++ x16)).bind fun (x18 : (List UInt8)) => gd ((x18.length + a0.An.length) * 1 ≤ 140737488355328) (some (x18 ++ a0.An, 0))))))))))
set_option maxHeartbeats 8000000 in
set_option pp.deepTerms false in
set_option maxRecDepth 60000 in
theorem P0 {H : A0} {K : Am → A0 → Prop} (a0 : S42) (hV : VOK prog H) {r : (List UInt8) × Int} (h : F18 a0 = some r) (hK : K (.ret (.tu [.sl 1 (r.1.map fun x => [.v (.int .u8 x.toNat)]), .v (.int .i64 r.2)])) H) : A3 prog 18 [.ag ([.v (str a0.Ag), .v (str a0.Ax), .sl 2 (a0.Aj.map fun x => [.v (str x.fName), .v (str x.A5)]), .sl 1 (a0.An.map fun x => [.v (.int .u8 x.toNat)])])] H K := by
 refine A9 (N := 41) func18 (by kernel_rfl) rfl (by kernel_rfl) (by kernel_rfl) fun cb hcb hw hbd hnb => ?_; clear hbd hnb; subst hcb; unfold F18 at h; refine A1 fun cb hc1 => ?_; refine vcK ?_
 try simp -implicitDefEqProofs (disch := omega) [go_sem]
 subst hc1; refine A1 fun cb hc2 => ?_; refine A1 fun cb hc3 => ?_; refine vcK ?_
 try simp -implicitDefEqProofs (disch := omega) [go_sem]
 obtain ⟨x4, hx4, h⟩ := A4 h; refine A3.eqA (args' := [.v (str a0.Ag)]) (by first | with_reducible rfl | (simp -implicitDefEqProofs (disch := omega) [go_sem] <;> omega)) (OO a0.Ag hx4 ?_)
 try simp -implicitDefEqProofs (disch := omega) [go_sem]
 refine A6 h (by first | with_reducible rfl | (simp -implicitDefEqProofs (disch := omega) [go_sem] <;> omega)) ?_ ?_
 ·intro c22 h
  try simp (disch := omega) at c22
  try simp -implicitDefEqProofs (disch := omega) [go_sem]
  subst hc3; refine Aw (by first | with_reducible rfl | (simp -implicitDefEqProofs (disch := omega) [go_sem] <;> omega)) rfl ?_; refine A1 fun cb hc5 => ?_; refine vcK ?_
  try simp -implicitDefEqProofs (disch := omega) [go_sem]
  subst hc5; refine IWp.gh (Gh.KS 2 1 (by (simp -implicitDefEqProofs (disch := omega) [go_sem] <;> omega))) ?_; refine vcK ?_; simp -implicitDefEqProofs only [go_sem]; have er := Option.some.inj h; subst er
  try simp -implicitDefEqProofs (disch := omega) [go_sem]
  refine A2 (by exact A8 (Ext.refl hw)) (by first | with_reducible rfl | (simp -implicitDefEqProofs (disch := omega) [go_sem] <;> omega)) nbA hK
 ·intro c22 h
  try simp (disch := omega) at c22
  try simp -implicitDefEqProofs (disch := omega) [go_sem]
  obtain ⟨x6, hx6, h⟩ := A4 h; refine A3.eqA (args' := [.v (str a0.Ax)]) (by first | with_reducible rfl | (simp -implicitDefEqProofs (disch := omega) [go_sem] <;> omega)) (OQ a0.Ax hx6 ?_)
  try simp -implicitDefEqProofs (disch := omega) [go_sem]
  refine A6 h (by first | with_reducible rfl | (simp -implicitDefEqProofs (disch := omega) [go_sem] <;> omega)) ?_ ?_
  ·intro c21 h
   try simp (disch := omega) at c21
   try simp -implicitDefEqProofs (disch := omega) [go_sem]
   subst hc3; refine Aw (by first | with_reducible rfl | (simp -implicitDefEqProofs (disch := omega) [go_sem] <;> omega)) rfl ?_; refine A1 fun cb hc7 => ?_; refine vcK ?_
   try simp -implicitDefEqProofs (disch := omega) [go_sem]
   subst hc7; refine IWp.gh (Gh.KS 2 1 (by (simp -implicitDefEqProofs (disch := omega) [go_sem] <;> omega))) ?_; refine vcK ?_; simp -implicitDefEqProofs only [go_sem]; have er := Option.some.inj h; subst er
   try simp -implicitDefEqProofs (disch := omega) [go_sem]
   refine A2 (by exact A8 (Ext.refl hw)) (by first | with_reducible rfl | (simp -implicitDefEqProofs (disch := omega) [go_sem] <;> omega)) nbA hK
  ·intro c21 h
   try simp (disch := omega) at c21
   try simp -implicitDefEqProofs (disch := omega) [go_sem]
   obtain ⟨x8, hx8, h⟩ := A4 h; refine A3.eqA (args' := [.sl 2 (a0.Aj.map fun x => [.v (str x.fName), .v (str x.A5)]), .sl 1 (a0.An.map fun x => [.v (.int .u8 x.toNat)])]) (by first | with_reducible rfl | (simp -implicitDefEqProofs (disch := omega) [go_sem] <;> omega)) (Mh a0.Aj a0.An hx8 ?_)
   try simp -implicitDefEqProofs (disch := omega) [go_sem]
   subst hc3; refine Aa h (by first | with_reducible rfl | (simp -implicitDefEqProofs (disch := omega) [go_sem] <;> omega)) rfl ?_ ?_
   ·intro c9 h
    try simp (disch := omega) at c9
    refine A1 fun cb hc10 => ?_; refine vcK ?_
    try simp -implicitDefEqProofs (disch := omega) [go_sem]
    subst hc10; refine IWp.gh (Gh.KS 2 1 (by (simp -implicitDefEqProofs (disch := omega) [go_sem] <;> omega))) ?_; refine vcK ?_; simp -implicitDefEqProofs only [go_sem]; have er := Option.some.inj h; subst er
    try simp -implicitDefEqProofs (disch := omega) [go_sem]
    refine A2 (by exact A8 (Ext.refl hw)) (by first | with_reducible rfl | (simp -implicitDefEqProofs (disch := omega) [go_sem] <;> omega)) nbA hK
   ·intro c9 h
    try simp (disch := omega) at c9
    refine vcK ?_; simp -implicitDefEqProofs only [go_sem]; subst hc2; refine A1 fun cb hc11 => ?_; refine BX [13] [0, 1, 2, 3, 4, 5, 6, 7, 8, 9, 10, 11, 12, 13, 14, 16, 17, 15, 18, 19, 20] (by kernel_rfl) (by kernel_rfl) (fun _ _ _ _ h => h) ?_; obtain ⟨g12, h⟩ := A7.1 h
    try simp (disch := omega) at g12
    obtain ⟨g13, h⟩ := A7.1 h
    try simp (disch := omega) at g13
    obtain ⟨g14, h⟩ := A7.1 h
    try simp (disch := omega) at g14
    obtain ⟨g15, h⟩ := A7.1 h
    try simp (disch := omega) at g15
    try simp -implicitDefEqProofs (disch := omega) [go_sem]
    obtain ⟨x16, hx16, h⟩ := A4 h; refine Cu.mkT (fun H0 => VOK prog H0) _ (by first | exact hV.of rfl | exact hV.of ((Ext.refl hw)).sn | exact hV.of (Ext.sn (H := H) (by exact A8 (Ext.refl hw))) | exact (VOK.of hV rfl).tok | exact (VOK.of hV ((Ext.refl hw)).sn).tok | exact (VOK.of hV (Ext.sn (H := H) (by exact A8 (Ext.refl hw)))).tok) (fun H0 K0 hT hK => A3.eqA (args' := [.v (.int .i64 (a0.An.length : Int))]) (by first | with_reducible rfl | (simp -implicitDefEqProofs (disch := omega) [go_sem] <;> omega)) (K8 (a0.An.length : Int) hT hx16 hK)) ?_; obtain ⟨g17, h⟩ := A7.1 h
    try simp (disch := omega) at g17
    try simp -implicitDefEqProofs (disch := omega) [go_sem]
    obtain ⟨x18, hx18, h⟩ := A4 h; refine A3.eqA (args' := [.v (str ((((a0.Ag ++ (([32]) : List UInt8)) ++ a0.Ax) ++ (([32]) : List UInt8)) ++ (([72, 84, 84, 80, 47, 49, 46, 49]) : List UInt8))), .sl 2 (a0.Aj.map fun x => [.v (str x.fName), .v (str x.A5)]), .v (str ((([99, 111, 110, 116, 101, 110, 116, 45, 108, 101, 110, 103, 116, 104, 58, 32]) : List UInt8) ++ x16))]) (by first | with_reducible rfl | (simp -implicitDefEqProofs (disch := omega) [go_sem] <;> omega)) (O_ ((((a0.Ag ++ (([32]) : List UInt8)) ++ a0.Ax) ++ (([32]) : List UInt8)) ++ (([72, 84, 84, 80, 47, 49, 46, 49]) : List UInt8)) a0.Aj ((([99, 111, 110, 116, 101, 110, 116, 45, 108, 101, 110, 103, 116, 104, 58, 32]) : List UInt8) ++ x16) hx18 ?_); obtain ⟨g20, h⟩ := A7.1 h
    try simp (disch := omega) at g20
    try simp -implicitDefEqProofs (disch := omega) [go_sem]
    repeat refine ⟨hV, ?_⟩
    subst hc11; refine IWp.gh (Gh.freeze (d := 2) (k := H.next + 1) (sz := 1) (es := (x18 ++ a0.An).map fun x => [.v (.int .u8 x.toNat)]) (by (simp -implicitDefEqProofs (disch := omega) [go_sem] <;> omega)) (by (simp -implicitDefEqProofs (disch := omega) [go_sem] <;> omega))) ?_; refine vcK ?_; simp -implicitDefEqProofs only [go_sem]; have er := Option.some.inj h; subst er
    try simp -implicitDefEqProofs (disch := omega) [go_sem]
    refine A2 (by exact A8 (Ext.refl hw)) (by first | with_reducible rfl | (simp -implicitDefEqProofs (disch := omega) [go_sem] <;> omega)) nbA hK
noncomputable def F64 (a0 : AA) : Option (Except Unit ((List UInt8) × AA)) :=
 (F88 a0.Bb.fb ([13, 10] : List UInt8)).bind fun (x3 : (List UInt8) × (List UInt8) × Bool) => if x3.2.2 = true then (some ((.ok ((x3.1, (⟨(⟨x3.2.1⟩ : S98)⟩ : AA)))))) else (some (.error ()))
set_option maxHeartbeats 8000000 in
set_option pp.deepTerms false in
set_option maxRecDepth 60000 in
theorem Fy {H : A0} {K : Am → A0 → Prop} (a0 : AA) (ka0 : Nat) (Ac : H.obj ka0 = some (.cells ([.sl 1 (a0.Bb.fb.map fun x => [.v (.int .u8 x.toNat)])]))) (hV : VOK prog H) {r : Except Unit ((List UInt8) × AA)} (h : F64 a0 = some r) (hP : ∀ e, r = .error e → K (.pan (C8 e)) (H.del ka0)) (hK : ∀ v : (List UInt8) × AA, r = .ok v → K (.ret (.v (str v.1))) (Dh H [(ka0, .cells ([.sl 1 (v.2.Bb.fb.map fun x => [.v (.int .u8 x.toNat)])]))])) : A3 prog 64 [.p ka0 0] H K := by
 refine A9 (N := 26) func64 (by kernel_rfl) rfl (by kernel_rfl) (by kernel_rfl) fun cb hcb hw hbd hnb => ?_; clear hbd hnb; subst hcb; unfold F64 at h; have NC : ka0 < H.next := Nat.lt_of_not_le fun q => by rw [hw _ q] at Ac; cases Ac
 refine A1 fun cb hc1 => ?_; refine vcK ?_
 try simp -implicitDefEqProofs (disch := omega) [go_sem, Ac]
 subst hc1; refine A1 fun cb hc2 => ?_; refine vcK ?_
 try simp -implicitDefEqProofs (disch := omega) [go_sem, Ac]
 obtain ⟨x3, hx3, h⟩ := A4 h; refine A3.eqA (args' := [.sl 1 (a0.Bb.fb.map fun x => [.v (.int .u8 x.toNat)]), .sl 1 (([13, 10] : List UInt8).map fun x => [.v (.int .u8 x.toNat)])]) (by first | with_reducible rfl | (simp -implicitDefEqProofs (disch := omega) [go_sem, Ac] <;> omega)) (T6 a0.Bb.fb ([13, 10] : List UInt8) (by first | exact hV.of rfl | exact hV.of ((Ext.Ao (Ext.refl hw) ka0)).sn | exact hV.of (Ext.sn (H := H) (by exact A8 (Ext.Ao (Ext.refl hw) ka0))) | exact (VOK.of hV rfl).tok | exact (VOK.of hV ((Ext.Ao (Ext.refl hw) ka0)).sn).tok | exact (VOK.of hV (Ext.sn (H := H) (by exact A8 (Ext.Ao (Ext.refl hw) ka0)))).tok) hx3 ?_)
 try simp -implicitDefEqProofs (disch := omega) [go_sem, Ac]
 subst hc2; refine A1 fun cb hc4 => ?_; refine vcK ?_
 try simp -implicitDefEqProofs (disch := omega) [go_sem, Ac]
 refine A3.eqA (args' := [.v (.bool x3.2.2)]) (by first | with_reducible rfl | (simp -implicitDefEqProofs (disch := omega) [go_sem, Ac] <;> omega)) ?_; by_cases m5 : ¬ (x3.2.2 = true)
 ·rw [if_neg m5] at h; refine Bf  (by first | simpa using m5 | exact Bool.eq_false_iff.2 (fun q => m5 (by simpa using q))) ?_
  try simp (disch := omega) at m5
  have er := Option.some.inj h; subst er
  try simp -implicitDefEqProofs (disch := omega) [go_sem, Ac]
  exact Bu (by exact Bm (Ext.Ao (Ext.refl hw) ka0)) ((Dl.refl _).del ka0) (hP _ rfl)
 have m5 := Classical.not_not.1 m5; rw [if_pos m5] at h; refine Cv  (by simpa using m5) ?_
 try simp (disch := omega) at m5
 try simp -implicitDefEqProofs (disch := omega) [go_sem, Ac]
 subst hc4; refine A1 fun cb hc6 => ?_; refine vcK ?_
 try simp -implicitDefEqProofs (disch := omega) [go_sem, Ac]
 subst hc6; refine A1 fun cb hc7 => ?_; refine vcK ?_
 try simp -implicitDefEqProofs (disch := omega) [go_sem, Ac]
 subst hc7; refine vcK ?_; simp -implicitDefEqProofs only [go_sem]; have er := Option.some.inj h; subst er
 try simp -implicitDefEqProofs (disch := omega) [go_sem, Ac]
 refine AL (r' := .v (str x3.1)) (io1 ka0 (.cells ([.sl 1 (x3.2.1.map fun x => [.v (.int .u8 x.toNat)])])) (by exact A8 (Ext.Ao (Ext.refl hw) ka0)) (by omega) (by first | with_reducible assumption | rfl | simp -implicitDefEqProofs (disch := omega) [go_sem, Ac]) (by first | exact nbA | exact BP | exact BB)) (by first | with_reducible rfl | (simp -implicitDefEqProofs (disch := omega) [go_sem, Ac] <;> omega)) (.same (by first | exact nbA | exact BP | exact BB)) (hK _ rfl)
noncomputable def F82 (a0 : List UInt8) (a1 : List UInt8) : Option Bool :=
 if (a1.length : Int) ≤ (a0.length : Int) then (gd (0 ≤ (a1.length : Int)) (gd ((a1.length : Int) ≤ a0.length) (some (decide (((a0.take (a1.length : Int).toNat)) = a1))))) else (some false)
set_option maxHeartbeats 8000000 in
set_option pp.deepTerms false in
set_option maxRecDepth 60000 in
theorem Ti {H : A0} {K : Am → A0 → Prop} (a0 : List UInt8) (a1 : List UInt8) {r : Bool} (h : F82 a0 a1 = some r) (hK : K (.ret (.v (.bool r))) H) : A3 prog 82 [.v (str a0), .v (str a1)] H K := by
 refine A9 (N := 18) func82 (by kernel_rfl) rfl (by kernel_rfl) (by kernel_rfl) fun cb hcb hw hbd hnb => ?_; clear hbd hnb; subst hcb; unfold F82 at h; refine A1 fun cb hc1 => ?_; refine vcK ?_
 try simp -implicitDefEqProofs (disch := omega) [go_sem]
 subst hc1; refine A1 fun cb hc2 => ?_; refine vcK ?_
 try simp -implicitDefEqProofs (disch := omega) [go_sem]
 refine A6 h (by first | with_reducible rfl | (simp -implicitDefEqProofs (disch := omega) [go_sem] <;> omega)) ?_ ?_
 ·intro c5 h
  try simp (disch := omega) at c5
  obtain ⟨g3, h⟩ := A7.1 h
  try simp (disch := omega) at g3
  obtain ⟨g4, h⟩ := A7.1 h
  try simp (disch := omega) at g4
  try simp -implicitDefEqProofs (disch := omega) [go_sem]
  subst hc2; refine vcK ?_; simp -implicitDefEqProofs only [go_sem]; have er := Option.some.inj h; subst er
  try simp -implicitDefEqProofs (disch := omega) [go_sem]
  refine A2 (by exact A8 (Ext.refl hw)) (by first | with_reducible rfl | (simp -implicitDefEqProofs (disch := omega) [go_sem] <;> omega)) nbA hK
 ·intro c5 h
  try simp (disch := omega) at c5
  try simp -implicitDefEqProofs (disch := omega) [go_sem]
  subst hc2; refine vcK ?_; simp -implicitDefEqProofs only [go_sem]; have er := Option.some.inj h; subst er
  try simp -implicitDefEqProofs (disch := omega) [go_sem]
  refine A2 (by exact A8 (Ext.refl hw)) (by first | with_reducible rfl | (simp -implicitDefEqProofs (disch := omega) [go_sem] <;> omega)) nbA hK
noncomputable def F60 (a0 : List UInt8) (a1 : List UInt8) : Option ((List UInt8) × Bool) :=
 (F82 a0 a1).bind fun (x4 : Bool) => if ¬ (x4 = true) then (some (a0, false)) else (gd (0 ≤ (a1.length : Int)) (gd ((a1.length : Int) ≤ a0.length) (some ((a0.drop (a1.length : Int).toNat, true)))))
set_option maxHeartbeats 8000000 in
set_option pp.deepTerms false in
set_option maxRecDepth 60000 in
theorem Tj {H : A0} {K : Am → A0 → Prop} (a0 : List UInt8) (a1 : List UInt8) {r : (List UInt8) × Bool} (h : F60 a0 a1 = some r) (hK : K (.ret (.tu [.v (str r.1), .v (.bool r.2)])) H) : A3 prog 60 [.v (str a0), .v (str a1)] H K := by
 refine A9 (N := 15) func60 (by kernel_rfl) rfl (by kernel_rfl) (by kernel_rfl) fun cb hcb hw hbd hnb => ?_; clear hbd hnb; subst hcb; unfold F60 at h; refine A1 fun cb hc1 => ?_; refine vcK ?_
 try simp -implicitDefEqProofs (disch := omega) [go_sem]
 subst hc1; refine A1 fun cb hc2 => ?_; refine A1 fun cb hc3 => ?_; refine vcK ?_
 try simp -implicitDefEqProofs (disch := omega) [go_sem]
 obtain ⟨x4, hx4, h⟩ := A4 h; refine A3.eqA (args' := [.v (str a0), .v (str a1)]) (by first | with_reducible rfl | (simp -implicitDefEqProofs (disch := omega) [go_sem] <;> omega)) (Ti a0 a1 hx4 ?_)
 try simp -implicitDefEqProofs (disch := omega) [go_sem]
 subst hc3; refine Aa h (by first | with_reducible rfl | (simp -implicitDefEqProofs (disch := omega) [go_sem] <;> omega)) rfl ?_ ?_
 ·intro c5 h
  try simp (disch := omega) at c5
  refine A1 fun cb hc6 => ?_; refine vcK ?_
  try simp -implicitDefEqProofs (disch := omega) [go_sem]
  subst hc6; refine vcK ?_; simp -implicitDefEqProofs only [go_sem]; have er := Option.some.inj h; subst er
  try simp -implicitDefEqProofs (disch := omega) [go_sem]
  refine A2 (by exact A8 (Ext.refl hw)) (by first | with_reducible rfl | (simp -implicitDefEqProofs (disch := omega) [go_sem] <;> omega)) nbA hK
 ·intro c5 h
  try simp (disch := omega) at c5
  refine vcK ?_; simp -implicitDefEqProofs only [go_sem]; subst hc2; refine A1 fun cb hc7 => ?_; refine vcK ?_; obtain ⟨g8, h⟩ := A7.1 h
  try simp (disch := omega) at g8
  obtain ⟨g9, h⟩ := A7.1 h
  try simp (disch := omega) at g9
  try simp -implicitDefEqProofs (disch := omega) [go_sem]
  subst hc7; refine vcK ?_; simp -implicitDefEqProofs only [go_sem]; have er := Option.some.inj h; subst er
  try simp -implicitDefEqProofs (disch := omega) [go_sem]
  refine A2 (by exact A8 (Ext.refl hw)) (by first | with_reducible rfl | (simp -implicitDefEqProofs (disch := omega) [go_sem] <;> omega)) nbA hK
noncomputable def F31 (a0 : List UInt8) (a1 : List UInt8) : Option ((List UInt8) × Bool) :=
 (F60 a0 a1).bind fun (x3 : (List UInt8) × Bool) => some (x3.1, x3.2)
set_option maxHeartbeats 8000000 in
set_option pp.deepTerms false in
set_option maxRecDepth 60000 in
theorem Tk {H : A0} {K : Am → A0 → Prop} (a0 : List UInt8) (a1 : List UInt8) {r : (List UInt8) × Bool} (h : F31 a0 a1 = some r) (hK : K (.ret (.tu [.v (str r.1), .v (.bool r.2)])) H) : A3 prog 31 [.v (str a0), .v (str a1)] H K := by
 refine A9 (N := 11) func31 (by kernel_rfl) rfl (by kernel_rfl) (by kernel_rfl) fun cb hcb hw hbd hnb => ?_; clear hbd hnb; subst hcb; unfold F31 at h; refine A1 fun cb hc1 => ?_; refine vcK ?_
 try simp -implicitDefEqProofs (disch := omega) [go_sem]
 subst hc1; refine A1 fun cb hc2 => ?_; refine vcK ?_
 try simp -implicitDefEqProofs (disch := omega) [go_sem]
 obtain ⟨x3, hx3, h⟩ := A4 h; refine A3.eqA (args' := [.v (str a0), .v (str a1)]) (by first | with_reducible rfl | (simp -implicitDefEqProofs (disch := omega) [go_sem] <;> omega)) (Tj a0 a1 hx3 ?_)
 try simp -implicitDefEqProofs (disch := omega) [go_sem]
 subst hc2; refine vcK ?_; simp -implicitDefEqProofs only [go_sem]; have er := Option.some.inj h; subst er
 try simp -implicitDefEqProofs (disch := omega) [go_sem]
 refine A2 (by exact A8 (Ext.refl hw)) (by first | with_reducible rfl | (simp -implicitDefEqProofs (disch := omega) [go_sem] <;> omega)) nbA hK
noncomputable def F26 (a0 : Int) : Option Bool :=
 if 100 ≤ a0 then (some (decide (a0 ≤ 599))) else (some false)
set_option maxHeartbeats 8000000 in
set_option pp.deepTerms false in
set_option maxRecDepth 60000 in
theorem Tl {H : A0} {K : Am → A0 → Prop} (a0 : Int) {r : Bool} (h : F26 a0 = some r) (hK : K (.ret (.v (.bool r))) H) : A3 prog 26 [.v (.int .i64 a0)] H K := by
 refine A9 (N := 9) func26 (by kernel_rfl) rfl (by kernel_rfl) (by kernel_rfl) fun cb hcb hw hbd hnb => ?_; clear hbd hnb; subst hcb; unfold F26 at h; refine A1 fun cb hc1 => ?_; refine vcK ?_
 try simp -implicitDefEqProofs (disch := omega) [go_sem]
 subst hc1; refine A1 fun cb hc2 => ?_; refine vcK ?_
 try simp -implicitDefEqProofs (disch := omega) [go_sem]
 refine A6 h (by first | with_reducible rfl | (simp -implicitDefEqProofs (disch := omega) [go_sem] <;> omega)) ?_ ?_
 ·intro c3 h
  try simp (disch := omega) at c3
  try simp -implicitDefEqProofs (disch := omega) [go_sem]
  subst hc2; refine vcK ?_; simp -implicitDefEqProofs only [go_sem]; have er := Option.some.inj h; subst er
  try simp -implicitDefEqProofs (disch := omega) [go_sem]
  refine A2 (by exact A8 (Ext.refl hw)) (by first | with_reducible rfl | (simp -implicitDefEqProofs (disch := omega) [go_sem] <;> omega)) nbA hK
 ·intro c3 h
  try simp (disch := omega) at c3
  try simp -implicitDefEqProofs (disch := omega) [go_sem]
  subst hc2; refine vcK ?_; simp -implicitDefEqProofs only [go_sem]; have er := Option.some.inj h; subst er
  try simp -implicitDefEqProofs (disch := omega) [go_sem]
  refine A2 (by exact A8 (Ext.refl hw)) (by first | with_reducible rfl | (simp -implicitDefEqProofs (disch := omega) [go_sem] <;> omega)) nbA hK
noncomputable def F35 (a0 : Int) : Option Bool :=
 if 32 ≤ a0 then (some (decide (a0 ≤ 126))) else (some false)
set_option maxHeartbeats 8000000 in
set_option pp.deepTerms false in
set_option maxRecDepth 60000 in
theorem Tn {H : A0} {K : Am → A0 → Prop} (a0 : Int) {r : Bool} (h : F35 a0 = some r) (hK : K (.ret (.v (.bool r))) H) : A3 prog 35 [.v (.int .u8 a0)] H K := by
 refine A9 (N := 9) func35 (by kernel_rfl) rfl (by kernel_rfl) (by kernel_rfl) fun cb hcb hw hbd hnb => ?_; clear hbd hnb; subst hcb; unfold F35 at h; refine A1 fun cb hc1 => ?_; refine vcK ?_
 try simp -implicitDefEqProofs (disch := omega) [go_sem]
 subst hc1; refine A1 fun cb hc2 => ?_; refine vcK ?_
 try simp -implicitDefEqProofs (disch := omega) [go_sem]
 refine A6 h (by first | with_reducible rfl | (simp -implicitDefEqProofs (disch := omega) [go_sem] <;> omega)) ?_ ?_
 ·intro c3 h
  try simp (disch := omega) at c3
  try simp -implicitDefEqProofs (disch := omega) [go_sem]
  subst hc2; refine vcK ?_; simp -implicitDefEqProofs only [go_sem]; have er := Option.some.inj h; subst er
  try simp -implicitDefEqProofs (disch := omega) [go_sem]
  refine A2 (by exact A8 (Ext.refl hw)) (by first | with_reducible rfl | (simp -implicitDefEqProofs (disch := omega) [go_sem] <;> omega)) nbA hK
 ·intro c3 h
  try simp (disch := omega) at c3
  try simp -implicitDefEqProofs (disch := omega) [go_sem]
  subst hc2; refine vcK ?_; simp -implicitDefEqProofs only [go_sem]; have er := Option.some.inj h; subst er
  try simp -implicitDefEqProofs (disch := omega) [go_sem]
  refine A2 (by exact A8 (Ext.refl hw)) (by first | with_reducible rfl | (simp -implicitDefEqProofs (disch := omega) [go_sem] <;> omega)) nbA hK
end Go.Idl
namespace Go.Idl
open Go Go.Proofs.Tryz
noncomputable def Gc  : Option Bool :=
 some true
noncomputable def EA (a0 : List UInt8) (v6 : Int) : Option (Int ⊕ (Unit ⊕ Bool)) :=
 if v6 < (a0.length : Int) then (gd (0 ≤ v6 ∧ v6 < a0.length) ((F35 (((a0.getD v6.toNat 0).toNat : Int))).bind fun (x15 : Bool) => if ¬ (x15 = true) then (some (.inr (.inr false))) else (some (.inl (IntKind.i64.wrap (v6 + 1)))))) else (some (.inr (.inl ())))
noncomputable def Jx (a0 : List UInt8) : Option Bool :=
 gd ((a0.length : Int) ≤ 9223372036854775807) ((B3 (fun (s : Int) => EA a0 s) 0).bind fun y => Sum.elim (fun (e : Unit) => Gc) (fun (q : Bool) => some q) y)
set_option maxHeartbeats 8000000 in
set_option pp.deepTerms false in
set_option maxRecDepth 60000 in
theorem P3 {H : A0} {K : Am → A0 → Prop} (a0 : List UInt8) {r : Bool} (h : Jx a0 = some r) (hK : K (.ret (.v (.bool r))) H) : A3 prog 34 [.v (str a0), .v (.func (.func 35) #[] #[])] H K := by
 refine A9 (N := 19) func34 (by kernel_rfl) rfl (by kernel_rfl) (by kernel_rfl) fun cb hcb hw hbd hnb => ?_; clear hbd hnb; subst hcb; unfold Jx at h; refine A1 fun cb hc1 => ?_; refine vcK ?_
 try simp -implicitDefEqProofs (disch := omega) [go_sem]
 subst hc1; refine A1 fun cb hc2 => ?_; refine A1 fun cb hc3 => ?_; refine vcK ?_; obtain ⟨g4, h⟩ := A7.1 h
 try simp (disch := omega) at g4
 try simp -implicitDefEqProofs (disch := omega) [go_sem]
 refine D0 a0 rfl (by kernel_rfl) underlying9 underlying23 underlying5 (by first | with_reducible rfl | (simp -implicitDefEqProofs (disch := omega) [go_sem]; done) | rfl) (by first | omega | decide | (simp; omega)) ?_
 try simp -implicitDefEqProofs (disch := omega) [go_sem]
 subst hc3; obtain ⟨y5, hl5q, hk5⟩ := A4 h; refine AW (fun tm' H' => .inl () = y5 ∧ H = H') ?_ fun cb hc5 => ?_
 ·rintro tm5e H5e ⟨rfl, rfl⟩
  have h : Gc = some r := hk5; unfold Gc at h; simp -implicitDefEqProofs only [go_sem]; subst hc2; refine A1 fun cb hc7 => ?_; refine vcK ?_
  try simp -implicitDefEqProofs (disch := omega) [go_sem]
  subst hc7; refine vcK ?_; simp -implicitDefEqProofs only [go_sem]; have er := Option.some.inj h; subst er
  try simp -implicitDefEqProofs (disch := omega) [go_sem]
  refine A2 (by exact A8 (Ext.refl hw)) (by first | with_reducible rfl | (simp -implicitDefEqProofs (disch := omega) [go_sem] <;> omega)) nbA hK
 ·refine Af ?_; refine AN (fun (s : Int) tm' H' => H = H' ∧ tm' 1 = .v (.func (.func 35) #[] #[]) ∧ tm' 8 = .sl 1 (a0.map fun x => [.v (.int .u8 x.toNat)]) ∧ tm' 9 = .v (.int .i64 (a0.length : Int)) ∧ tm' 10 = .v (.int .i64 s)) hl5q ?_ ?_
  ·refine .same ⟨rfl, ?_, ?_, ?_, ?_⟩ <;> first | with_reducible rfl | with_reducible assumption | (simp -implicitDefEqProofs (disch := omega) [go_sem] <;> omega)
  ·rintro I5 hI5 v6 x5 tm5 H5 ⟨rfl, Br, Al, Bs, AQ⟩ h hret5
   replace h : EA a0 v6 = some x5 := h; unfold EA at h; refine A1 fun cb hc8 => ?_; refine vcK ?_
   try simp -implicitDefEqProofs (disch := omega) [go_sem, Br, Al, Bs, AQ]
   subst hc8; refine A1 fun cb hc9 => ?_; refine Aa h (by first | with_reducible rfl | (simp -implicitDefEqProofs (disch := omega) [go_sem, Br, Al, Bs, AQ] <;> omega)) rfl ?_ ?_
   ·intro c10 h
    try simp (disch := omega) at c10
    refine vcK ?_; simp -implicitDefEqProofs only [go_sem]; subst hc9; refine A1 fun cb hc11 => ?_; refine Af ?_; refine A1 fun cb hc12 => ?_; refine vcK ?_; obtain ⟨g13, h⟩ := A7.1 h
    try simp (disch := omega) at g13
    try simp -implicitDefEqProofs (disch := omega) [go_sem, Br, Al, Bs, AQ]
    subst hc12; refine A1 fun cb hc14 => ?_; refine vcK ?_
    try simp -implicitDefEqProofs (disch := omega) [go_sem, Br, Al, Bs, AQ]
    obtain ⟨x15, hx15, h⟩ := A4 h; refine A3.eqA (args' := [.v (.int .u8 (((a0.getD v6.toNat 0).toNat : Int)))]) (by first | with_reducible rfl | (simp -implicitDefEqProofs (disch := omega) [go_sem, Br, Al, Bs, AQ] <;> omega)) (Tn (((a0.getD v6.toNat 0).toNat : Int)) hx15 ?_)
    try simp -implicitDefEqProofs (disch := omega) [go_sem, Br, Al, Bs, AQ]
    subst hc14; refine Aa h (by first | with_reducible rfl | (simp -implicitDefEqProofs (disch := omega) [go_sem, Br, Al, Bs, AQ] <;> omega)) rfl ?_ ?_
    ·intro c16 h
     try simp (disch := omega) at c16
     refine A1 fun cb hc17 => ?_; refine vcK ?_
     try simp -implicitDefEqProofs (disch := omega) [go_sem, Br, Al, Bs, AQ]
     subst hc17; refine vcK ?_; simp -implicitDefEqProofs only [go_sem]; have e5 := Option.some.inj h; subst e5; have e5 := hret5 _ rfl; subst e5; replace h : some false = some r := hk5; have er := Option.some.inj h; subst er
     try simp -implicitDefEqProofs (disch := omega) [go_sem, Br, Al, Bs, AQ]
     refine A2 (by exact A8 (Ext.refl hw)) (by first | with_reducible rfl | (simp -implicitDefEqProofs (disch := omega) [go_sem, Br, Al, Bs, AQ] <;> omega)) nbA hK
    ·intro c16 h
     try simp (disch := omega) at c16
     refine vcK ?_; simp -implicitDefEqProofs only [go_sem]; subst hc11; refine vcK ?_
     try simp -implicitDefEqProofs (disch := omega) [go_sem, Br, Al, Bs, AQ]
     have e5 := Option.some.inj h; subst e5; refine Au hI5 (IntKind.i64.wrap (v6 + 1)) ?_; refine .same ⟨rfl, ?_, ?_, ?_, ?_⟩ <;> first | with_reducible rfl | with_reducible assumption | (simp -implicitDefEqProofs (disch := omega) [go_sem, Br, Al, Bs, AQ] <;> omega)
   ·intro c10 h
    try simp (disch := omega) at c10
    refine vcK ?_; simp -implicitDefEqProofs only [go_sem]; have e5 := Option.some.inj h; subst e5; have hy5 := hret5 _ rfl; refine hc5 _ _ ?_; refine .same ⟨hy5, rfl⟩
noncomputable def F30 (a0 : List UInt8) : Option (Except Unit (S25)) :=
 (F31 a0 ([72, 84, 84, 80, 47, 49, 46, 49, 32])).bind fun (x3 : (List UInt8) × Bool) => if x3.2 = true then (if 3 ≤ (x3.1.length : Int) then (gd (0 ≤ 3) (gd (3 ≤ x3.1.length) ((F33 (x3.1.take 3)).bind fun (x9 : Int × Bool) => if ¬ x9.2 = true then ((F26 x9.1).bind fun (x12 : Bool) => if x12 = true then ((F29 x9.1).bind fun (x13 : (List UInt8)) => if x13 = (x3.1.take 3) then (if (x3.1.drop 3) = [] then (some ((.ok (⟨x9.1, [], []⟩ : S25)))) else (gd (0 < (x3.1.drop 3).length) (if ((((x3.1.drop 3).getD 0 0).toNat : Int)) = 32 then ((Jx (x3.1.drop 3)).bind fun (x16 : Bool) => if x16 = true then (some ((.ok (⟨x9.1, [], []⟩ : S25)))) else (some (.error ()))) else (some (.error ()))))) else (some (.error ()))) else (some (.error ()))) else (some (.error ()))))) else (some (.error ()))) else (some (.error ()))
set_option maxHeartbeats 8000000 in
set_option pp.deepTerms false in
set_option maxRecDepth 60000 in
theorem To {H : A0} {K : Am → A0 → Prop} (a0 : List UInt8) (hV : VOK prog H) {r : Except Unit (S25)} (h : F30 a0 = some r) (hP : ∀ e, r = .error e → K (.pan (C8 e)) H) (hK : ∀ v : S25, r = .ok v → K (.ret (.ag ([.v (.int .i64 v.Ea), .sl 2 (v.Aj.map fun x => [.v (str x.fName), .v (str x.A5)]), .sl 1 (v.An.map fun x => [.v (.int .u8 x.toNat)])]))) H) : A3 prog 30 [.v (str a0)] H K := by
 refine A9 (N := 57) func30 (by kernel_rfl) rfl (by kernel_rfl) (by kernel_rfl) fun cb hcb hw hbd hnb => ?_; clear hbd hnb; subst hcb; unfold F30 at h; refine A1 fun cb hc1 => ?_; refine vcK ?_
 try simp -implicitDefEqProofs (disch := omega) [go_sem, bdP]
 subst hc1; refine A1 fun cb hc2 => ?_; refine vcK ?_
 try simp -implicitDefEqProofs (disch := omega) [go_sem, bdP]
 obtain ⟨x3, hx3, h⟩ := A4 h; refine A3.eqA (args' := [.v (str a0), .v (str ([72, 84, 84, 80, 47, 49, 46, 49, 32]))]) (by first | with_reducible rfl | (simp -implicitDefEqProofs (disch := omega) [go_sem, bdP] <;> omega)) (Tk a0 ([72, 84, 84, 80, 47, 49, 46, 49, 32]) hx3 ?_)
 try simp -implicitDefEqProofs (disch := omega) [go_sem, bdP]
 subst hc2; refine A1 fun cb hc4 => ?_; refine vcK ?_
 try simp -implicitDefEqProofs (disch := omega) [go_sem, bdP]
 refine A6 h (by first | with_reducible rfl | (simp -implicitDefEqProofs (disch := omega) [go_sem, bdP] <;> omega)) ?_ ?_
 ·intro c24 h
  try simp (disch := omega) at c24
  try simp -implicitDefEqProofs (disch := omega) [go_sem, bdP]
  refine A3.eqA (args' := [.v (.bool (decide (3 ≤ (x3.1.length : Int))))]) (by first | with_reducible rfl | (simp -implicitDefEqProofs (disch := omega) [go_sem, bdP] <;> omega)) ?_; by_cases m5 : ¬ (3 ≤ (x3.1.length : Int))
  ·rw [if_neg m5] at h; refine Bf  (by first | simpa using m5 | exact Bool.eq_false_iff.2 (fun q => m5 (by simpa using q))) ?_
   try simp (disch := omega) at m5
   have er := Option.some.inj h; subst er
   try simp -implicitDefEqProofs (disch := omega) [go_sem, bdP]
   exact Bu (by exact Bm (Ext.refl hw)) (Dl.refl _) (hP _ rfl)
  have m5 := Classical.not_not.1 m5; rw [if_pos m5] at h; refine Cv  (by simpa using m5) ?_
  try simp (disch := omega) at m5
  try simp -implicitDefEqProofs (disch := omega) [go_sem, bdP]
  subst hc4; refine A1 fun cb hc6 => ?_; refine vcK ?_; obtain ⟨g7, h⟩ := A7.1 h
  try simp (disch := omega) at g7
  obtain ⟨g8, h⟩ := A7.1 h
  try simp (disch := omega) at g8
  try simp -implicitDefEqProofs (disch := omega) [go_sem, bdP]
  obtain ⟨x9, hx9, h⟩ := A4 h; refine A3.eqA (args' := [.v (str (x3.1.take 3))]) (by first | with_reducible rfl | (simp -implicitDefEqProofs (disch := omega) [go_sem, bdP] <;> omega)) (Me (x3.1.take 3) (by first | exact hV.of rfl | exact hV.of ((Ext.refl hw)).sn | exact hV.of (Ext.sn (H := H) (by exact A8 (Ext.refl hw))) | exact (VOK.of hV rfl).tok | exact (VOK.of hV ((Ext.refl hw)).sn).tok | exact (VOK.of hV (Ext.sn (H := H) (by exact A8 (Ext.refl hw)))).tok) hx9 ?_)
  try simp -implicitDefEqProofs (disch := omega) [go_sem, bdP]
  subst hc6; refine A1 fun cb hc10 => ?_; refine vcK ?_
  try simp -implicitDefEqProofs (disch := omega) [go_sem, bdP]
  subst hc10; refine A1 fun cb hc11 => ?_; refine BX [4, 8, 22] [0, 1, 2, 3, 4, 5, 6, 7, 8, 9, 10, 11, 12, 13, 14, 15, 16, 17, 18, 19, 20, 21, 22, 23, 24, 25, 26] (by kernel_rfl) (by kernel_rfl) (fun _ _ _ _ h => h) ?_
  try simp -implicitDefEqProofs (disch := omega) [go_sem, bdP]
  refine A6 h (by first | with_reducible rfl | (simp -implicitDefEqProofs (disch := omega) [go_sem, bdP] <;> omega)) ?_ ?_
  ·intro c23 h
   try simp (disch := omega) at c23
   try simp -implicitDefEqProofs (disch := omega) [go_sem, bdP]
   obtain ⟨x12, hx12, h⟩ := A4 h; refine Cu.mk _ (fun _ _ hK => A3.eqA (args' := [.v (.int .i64 x9.1)]) (by first | with_reducible rfl | (simp -implicitDefEqProofs (disch := omega) [go_sem, bdP] <;> omega)) (Tl x9.1 hx12 hK)) ?_
   try simp -implicitDefEqProofs (disch := omega) [go_sem, bdP]
   refine A6 h (by first | with_reducible rfl | (simp -implicitDefEqProofs (disch := omega) [go_sem, bdP] <;> omega)) ?_ ?_
   ·intro c22 h
    try simp (disch := omega) at c22
    try simp -implicitDefEqProofs (disch := omega) [go_sem, bdP]
    obtain ⟨x13, hx13, h⟩ := A4 h; refine Cu.mkT (fun H0 => VOK prog H0) _ (by first | exact hV.of rfl | exact hV.of ((Ext.refl hw)).sn | exact hV.of (Ext.sn (H := H) (by exact A8 (Ext.refl hw))) | exact (VOK.of hV rfl).tok | exact (VOK.of hV ((Ext.refl hw)).sn).tok | exact (VOK.of hV (Ext.sn (H := H) (by exact A8 (Ext.refl hw)))).tok) (fun H0 K0 hT hK => A3.eqA (args' := [.v (.int .i64 x9.1)]) (by first | with_reducible rfl | (simp -implicitDefEqProofs (disch := omega) [go_sem, bdP] <;> omega)) (K8 x9.1 hT hx13 hK)) ?_
    try simp -implicitDefEqProofs (disch := omega) [go_sem, bdP]
    refine A6 h (by first | with_reducible rfl | (simp -implicitDefEqProofs (disch := omega) [go_sem, bdP] <;> omega)) ?_ ?_
    ·intro c21 h
     try simp (disch := omega) at c21
     try simp -implicitDefEqProofs (disch := omega) [go_sem, bdP]
     refine A6 h (by first | with_reducible rfl | (simp -implicitDefEqProofs (disch := omega) [go_sem, bdP] <;> omega)) ?_ ?_
     ·intro c20 h
      try simp (disch := omega) at c20
      try simp -implicitDefEqProofs (disch := omega) [go_sem, bdP]
      refine A3.eqA (args' := [.v (.bool true)]) (by first | with_reducible rfl | (simp -implicitDefEqProofs (disch := omega) [go_sem, bdP] <;> omega)) (Cv  rfl ?_)
      try simp -implicitDefEqProofs (disch := omega) [go_sem, bdP]
      repeat refine ⟨hV, ?_⟩
      subst hc11; refine A1 fun cb hc14 => ?_; refine vcK ?_
      try simp -implicitDefEqProofs (disch := omega) [go_sem, bdP]
      subst hc14; refine vcK ?_; simp -implicitDefEqProofs only [go_sem]; have er := Option.some.inj h; subst er
      try simp -implicitDefEqProofs (disch := omega) [go_sem, bdP]
      refine AL (J := H) (r' := _) (Ext.Dz (by exact A8 (Ext.refl hw))) (by first | with_reducible rfl | (simp -implicitDefEqProofs (disch := omega) [go_sem, bdP] <;> omega)) (.wk _ (.ag ([.v (.int .i64 x9.1), .sl 2 (([] : List S55).map fun x => [.v (str x.fName), .v (str x.A5)]), .sl 1 (([] : List UInt8).map fun x => [.v (.int .u8 x.toNat)])])) (by repeat (first | exact WkL.nil | refine WkL.cons ?_ ?_ | exact Wk.refl _ | exact Wk.nil _ | refine Wk.agL ?_ | refine Wk.tuL ?_ | (refine Wk.eqv ?_; focus (simp -implicitDefEqProofs (disch := omega) [go_sem, str]; done)))) (by first | exact nbA | exact BP | exact BB)) (hK _ rfl)
     ·intro c20 h
      try simp (disch := omega) at c20
      obtain ⟨g15, h⟩ := A7.1 h
      try simp (disch := omega) at g15
      try simp -implicitDefEqProofs (disch := omega) [go_sem, bdP]
      refine A6 h (by first | with_reducible rfl | (simp -implicitDefEqProofs (disch := omega) [go_sem, bdP] <;> omega)) ?_ ?_
      ·intro c19 h
       try simp (disch := omega) at c19
       try simp -implicitDefEqProofs (disch := omega) [go_sem, bdP]
       obtain ⟨x16, hx16, h⟩ := A4 h; refine Cu.mk _ (fun _ _ hK => A3.eqA (args' := [.v (str (x3.1.drop 3)), .v (.func (.func 35) #[] #[])]) (by first | with_reducible rfl | (simp -implicitDefEqProofs (disch := omega) [go_sem, bdP] <;> omega)) (P3 (x3.1.drop 3) hx16 hK)) ?_
       try simp -implicitDefEqProofs (disch := omega) [go_sem, bdP]
       refine A3.eqA (args' := [.v (.bool x16)]) (by first | with_reducible rfl | (simp -implicitDefEqProofs (disch := omega) [go_sem, bdP] <;> omega)) ?_; by_cases m17 : ¬ (x16 = true)
       ·rw [if_neg m17] at h; refine Bf  (by first | simpa using m17 | exact Bool.eq_false_iff.2 (fun q => m17 (by simpa using q))) ?_
        try simp (disch := omega) at m17
        have er := Option.some.inj h; subst er
        try simp -implicitDefEqProofs (disch := omega) [go_sem, bdP]
        exact Bu (by exact Bm (Ext.refl hw)) (Dl.refl _) (hP _ rfl)
       have m17 := Classical.not_not.1 m17; rw [if_pos m17] at h; refine Cv  (by simpa using m17) ?_
       try simp (disch := omega) at m17
       try simp -implicitDefEqProofs (disch := omega) [go_sem, bdP]
       repeat refine ⟨hV, ?_⟩
       subst hc11; refine A1 fun cb hc18 => ?_; refine vcK ?_
       try simp -implicitDefEqProofs (disch := omega) [go_sem, bdP]
       subst hc18; refine vcK ?_; simp -implicitDefEqProofs only [go_sem]; have er := Option.some.inj h; subst er
       try simp -implicitDefEqProofs (disch := omega) [go_sem, bdP]
       refine AL (J := H) (r' := _) (Ext.Dz (by exact A8 (Ext.refl hw))) (by first | with_reducible rfl | (simp -implicitDefEqProofs (disch := omega) [go_sem, bdP] <;> omega)) (.wk _ (.ag ([.v (.int .i64 x9.1), .sl 2 (([] : List S55).map fun x => [.v (str x.fName), .v (str x.A5)]), .sl 1 (([] : List UInt8).map fun x => [.v (.int .u8 x.toNat)])])) (by repeat (first | exact WkL.nil | refine WkL.cons ?_ ?_ | exact Wk.refl _ | exact Wk.nil _ | refine Wk.agL ?_ | refine Wk.tuL ?_ | (refine Wk.eqv ?_; focus (simp -implicitDefEqProofs (disch := omega) [go_sem, str]; done)))) (by first | exact nbA | exact BP | exact BB)) (hK _ rfl)
      ·intro c19 h
       try simp (disch := omega) at c19
       try simp -implicitDefEqProofs (disch := omega) [go_sem, bdP]
       refine A3.eqA (args' := [.v (.bool false)]) (by first | with_reducible rfl | (simp -implicitDefEqProofs (disch := omega) [go_sem, bdP] <;> omega)) (Bf  rfl ?_); have er := Option.some.inj h; subst er
       try simp -implicitDefEqProofs (disch := omega) [go_sem, bdP]
       exact Bu (by exact Bm (Ext.refl hw)) (Dl.refl _) (hP _ rfl)
    ·intro c21 h
     try simp (disch := omega) at c21
     try simp -implicitDefEqProofs (disch := omega) [go_sem, bdP]
     refine A3.eqA (args' := [.v (.bool false)]) (by first | with_reducible rfl | (simp -implicitDefEqProofs (disch := omega) [go_sem, bdP] <;> omega)) (Bf  rfl ?_); have er := Option.some.inj h; subst er
     try simp -implicitDefEqProofs (disch := omega) [go_sem, bdP]
     exact Bu (by exact Bm (Ext.refl hw)) (Dl.refl _) (hP _ rfl)
   ·intro c22 h
    try simp (disch := omega) at c22
    try simp -implicitDefEqProofs (disch := omega) [go_sem, bdP]
    refine A3.eqA (args' := [.v (.bool false)]) (by first | with_reducible rfl | (simp -implicitDefEqProofs (disch := omega) [go_sem, bdP] <;> omega)) (Bf  rfl ?_); have er := Option.some.inj h; subst er
    try simp -implicitDefEqProofs (disch := omega) [go_sem, bdP]
    exact Bu (by exact Bm (Ext.refl hw)) (Dl.refl _) (hP _ rfl)
  ·intro c23 h
   try simp (disch := omega) at c23
   try simp -implicitDefEqProofs (disch := omega) [go_sem, bdP]
   refine A3.eqA (args' := [.v (.bool false)]) (by first | with_reducible rfl | (simp -implicitDefEqProofs (disch := omega) [go_sem, bdP] <;> omega)) (Bf  rfl ?_); have er := Option.some.inj h; subst er
   try simp -implicitDefEqProofs (disch := omega) [go_sem, bdP]
   exact Bu (by exact Bm (Ext.refl hw)) (Dl.refl _) (hP _ rfl)
 ·intro c24 h
  try simp (disch := omega) at c24
  try simp -implicitDefEqProofs (disch := omega) [go_sem, bdP]
  refine A3.eqA (args' := [.v (.bool false)]) (by first | with_reducible rfl | (simp -implicitDefEqProofs (disch := omega) [go_sem, bdP] <;> omega)) (Bf  rfl ?_); have er := Option.some.inj h; subst er
  try simp -implicitDefEqProofs (disch := omega) [go_sem, bdP]
  exact Bu (by exact Bm (Ext.refl hw)) (Dl.refl _) (hP _ rfl)
noncomputable def Mm (v11 : AA) (v12 : List (List UInt8 × (List UInt8))) : Option (Except Unit ((List (List UInt8 × (List UInt8))) × AA)) :=
 some ((.ok (v12, v11)))
noncomputable def EB (v8 : List UInt8) (v9 : AA) (v10 : List (List UInt8 × (List UInt8))) : Option (((List UInt8) × AA × (List (List UInt8 × (List UInt8)))) ⊕ ((AA × (List (List UInt8 × (List UInt8)))) ⊕ (Except Unit ((List (List UInt8 × (List UInt8))) × AA)))) :=
 if ¬ v8 = [] then ((F89 v8 ([58])).bind fun (x19 : (List UInt8) × (List UInt8) × Bool) => (F80 x19.2.1 ([32, 9])).bind fun (x21 : (List UInt8)) => (F57 x19.1).bind fun (x23 : (List UInt8)) => if x19.2.2 = true then ((F56 x19.1).bind fun (x25 : Bool) => if x25 = true then ((F58 x21).bind fun (x26 : Bool) => if x26 = true then (if ¬ ((BM v10 x23).isSome = true) then ((F57 x19.1).bind fun (x28 : (List UInt8)) => (F64 v9).bind fun (x30 : Except Unit ((List UInt8) × AA)) => orP x30 (fun (ex30 : Unit) => some (.inr (.inr (.error ex30)))) (fun (y31 : (List UInt8) × AA) => some (.inl (y31.1, y31.2, LS v10 x28 x21)))) else (some (.inr (.inr (.error ()))))) else (some (.inr (.inr (.error ()))))) else (some (.inr (.inr (.error ()))))) else (some (.inr (.inr (.error ()))))) else (some (.inr (.inl (v9, v10))))
noncomputable def F65 (a0 : AA) : Option (Except Unit ((List (List UInt8 × (List UInt8))) × AA)) :=
 (F64 a0).bind fun (x5 : Except Unit ((List UInt8) × AA)) => orP x5 (fun (ex5 : Unit) => some (.error ex5)) (fun (y6 : (List UInt8) × AA) => (B3 (fun (s : (List UInt8) × AA × (List (List UInt8 × (List UInt8)))) => EB s.1 s.2.1 s.2.2) (y6.1, y6.2, [])).bind fun y => Sum.elim (fun (e : AA × (List (List UInt8 × (List UInt8)))) => Mm e.1 e.2) (fun (q : Except Unit ((List (List UInt8 × (List UInt8))) × AA)) => some q) y)
set_option maxHeartbeats 8000000 in
set_option pp.deepTerms false in
set_option maxRecDepth 60000 in
theorem P4 {H : A0} {K : Am → A0 → Prop} (a0 : AA) (ka0 : Nat) (Ac : H.obj ka0 = some (.cells ([.sl 1 (a0.Bb.fb.map fun x => [.v (.int .u8 x.toNat)])]))) (hV : VOK prog H) {r : Except Unit ((List (List UInt8 × (List UInt8))) × AA)} (h : F65 a0 = some r) (hP : ∀ e, r = .error e → K (.pan (C8 e)) (H.del ka0)) (hK : ∀ v : (List (List UInt8 × (List UInt8))) × AA, r = .ok v → K (.ret (.mp H.next)) (newL (Dh H [(ka0, .cells ([.sl 1 (v.2.Bb.fb.map fun x => [.v (.int .u8 x.toNat)])]))]) [.map (mE (fun (x : List UInt8) => .v (str x)) v.1)])) : A3 prog 65 [.p ka0 0] H K := by
 refine A9 (N := 51) func65 (by kernel_rfl) rfl (by kernel_rfl) (by kernel_rfl) fun cb hcb hw hbd hnb => ?_; clear hbd hnb; subst hcb; unfold F65 at h; have NC : ka0 < H.next := Nat.lt_of_not_le fun q => by rw [hw _ q] at Ac; cases Ac
 refine A1 fun cb hc1 => ?_; refine vcK ?_
 try simp -implicitDefEqProofs (disch := omega) [go_sem, Ac]
 subst hc1; refine A1 fun cb hc2 => ?_; refine vcK ?_
 try simp -implicitDefEqProofs (disch := omega) [go_sem, Ac]
 subst hc2; refine A1 fun cb hc3 => ?_; refine A1 fun cb hc4 => ?_; refine vcK ?_
 try simp -implicitDefEqProofs (disch := omega) [go_sem, Ac]
 obtain ⟨x5, hx5, h⟩ := A4 h; refine A3.eqA (args' := [.p ka0 0]) (by first | with_reducible rfl | (simp -implicitDefEqProofs (disch := omega) [go_sem, Ac] <;> omega)) (Fy a0 ka0 (by first | with_reducible assumption | simp -implicitDefEqProofs (disch := omega) [go_sem, Ac]) (by first | exact hV.of rfl | exact hV.of ((Ext.Ao (Ext.refl hw) ka0)).sn | exact hV.of (Ext.sn (H := H) (by exact A8 (Ext.Ao (Ext.refl hw) ka0))) | exact (VOK.of hV rfl).tok | exact (VOK.of hV ((Ext.Ao (Ext.refl hw) ka0)).sn).tok | exact (VOK.of hV (Ext.sn (H := H) (by exact A8 (Ext.Ao (Ext.refl hw) ka0)))).tok) hx5 ?_ ?_)
 ·intro ex5 qx5; subst qx5; replace h := AP h; have er := Option.some.inj h; subst er
  try simp -implicitDefEqProofs (disch := omega) [go_sem, Ac]
  exact Bu (by exact Bm (Ext.Ao (Ext.refl hw) ka0)) ((Dl.refl _).del ka0) (hP _ rfl)
 intro y6 qx5; subst qx5; replace h := B6 h
 try simp -implicitDefEqProofs (disch := omega) [go_sem, Ac]
 subst hc4; obtain ⟨y7, hl7q, hk7⟩ := A4 h; refine AW (fun tm' H' => ∃ v11 : AA, ∃ v12 : List (List UInt8 × (List UInt8)), .inl (v11, v12) = y7 ∧ Ext (H.del ka0) H' ∧ H.next + 1 ≤ H'.next ∧ tm' 3 = .mp H.next ∧ H'.obj ka0 = some (.cells ([.sl 1 (v11.Bb.fb.map fun x => [.v (.int .u8 x.toNat)])])) ∧ H'.obj H.next = some (.map (mE (fun (x : List UInt8) => .v (str x)) v12))) ?_ fun cb hc7 => ?_
 ·rintro tm7e H7e ⟨v11, v12, rfl, he7e, hl7e, t3_7e, ob0_7e, ob1_7e⟩
  have h : Mm v11 v12 = some r := hk7; unfold Mm at h; simp -implicitDefEqProofs only [go_sem]; subst hc3; refine A1 fun cb hc13 => ?_; refine vcK ?_
  try simp -implicitDefEqProofs (disch := omega) [go_sem, t3_7e, ob0_7e, ob1_7e]
  subst hc13; refine vcK ?_; simp -implicitDefEqProofs only [go_sem]; have er := Option.some.inj h; subst er
  try simp -implicitDefEqProofs (disch := omega) [go_sem, t3_7e, ob0_7e, ob1_7e]
  refine K4 (r := .mp H.next) (r' := .mp H.next) rfl (Ma hw [(ka0, .cells ([.sl 1 (v11.Bb.fb.map fun x => [.v (.int .u8 x.toNat)])]))] (by simp only [C6, Cr]; exact A8 he7e) (by intro p hp; simp only [List.mem_cons, List.not_mem_nil, or_false] at hp; (try rcases hp with hp); all_goals (subst hp; refine ⟨by omega, by first | with_reducible assumption | rfl | simp -implicitDefEqProofs (disch := omega) [go_sem, t3_7e, ob0_7e, ob1_7e], by first | exact nbA | exact BP | exact BB⟩)) (ks := [H.next]) (os := [.map (mE (fun (x : List UInt8) => .v (str x)) v12)]) (.cons (o := .map (mE (fun (x : List UInt8) => .v (str x)) v12)) (by first | omega | (simp [go_sem]; done) | (simp [go_sem]; omega)) (by first | omega | (simp [go_sem]; done) | (simp [go_sem]; omega)) (by simp -implicitDefEqProofs (disch := omega) [go_sem, t3_7e, ob0_7e, ob1_7e]) (.same _ (by first | exact nbA | exact BP | exact BB)) .nil) (by simp)) (.mpE (k := H.next) (by simp [Ca]) (by simp [go_sem, GA, EP])) (hK _ rfl)
 ·refine Af ?_; refine AN (fun (s : (List UInt8) × AA × (List (List UInt8 × (List UInt8)))) tm' H' => Ext (H.del ka0) H' ∧ H.next + 1 ≤ H'.next ∧ tm' 0 = .p ka0 0 ∧ tm' 3 = .mp H.next ∧ tm' 4 = .v (str s.1) ∧ H'.obj ka0 = some (.cells ([.sl 1 (s.2.1.Bb.fb.map fun x => [.v (.int .u8 x.toNat)])])) ∧ H'.obj H.next = some (.map (mE (fun (x : List UInt8) => .v (str x)) s.2.2))) hl7q ?_ ?_
  ·refine .same ⟨by exact A8 (Ext.Ao (Ext.refl hw) ka0), by first | with_reducible rfl | with_reducible assumption | omega | (simp -implicitDefEqProofs (disch := omega) [go_sem, Ac] <;> omega), ?_, ?_, ?_, ?_, ?_⟩ <;> first | with_reducible rfl | with_reducible assumption | (simp -implicitDefEqProofs (disch := omega) [go_sem, Ac] <;> omega)
  ·rintro I7 hI7 ⟨v8, v9, v10⟩ x7 tm7 H7 ⟨he7, hl7, BD, BE, BF, AZ, A_⟩ h hret7
   replace h : EB v8 v9 v10 = some x7 := h; unfold EB at h; refine A1 fun cb hc14 => ?_; refine A1 fun cb hc15 => ?_; refine vcK ?_
   try simp -implicitDefEqProofs (disch := omega) [go_sem, BD, BE, BF, AZ, A_]
   subst hc15; refine Aa h (by first | with_reducible rfl | (simp -implicitDefEqProofs (disch := omega) [go_sem, BD, BE, BF, AZ, A_] <;> omega)) rfl ?_ ?_
   ·intro c16 h
    try simp (disch := omega) at c16
    refine vcK ?_; simp -implicitDefEqProofs only [go_sem]; subst hc14; refine A1 fun cb hc17 => ?_; refine Af ?_; refine A1 fun cb hc18 => ?_; refine vcK ?_
    try simp -implicitDefEqProofs (disch := omega) [go_sem, BD, BE, BF, AZ, A_]
    obtain ⟨x19, hx19, h⟩ := A4 h; refine A3.eqA (args' := [.v (str v8), .v (str ([58]))]) (by first | with_reducible rfl | (simp -implicitDefEqProofs (disch := omega) [go_sem, BD, BE, BF, AZ, A_] <;> omega)) (T4 v8 ([58]) (by first | exact hV.of rfl | exact hV.of (he7).sn | exact hV.of (Ext.sn (H := H) (by exact A8 he7)) | exact (VOK.of hV rfl).tok | exact (VOK.of hV (he7).sn).tok | exact (VOK.of hV (Ext.sn (H := H) (by exact A8 he7))).tok) hx19 ?_)
    try simp -implicitDefEqProofs (disch := omega) [go_sem, BD, BE, BF, AZ, A_]
    subst hc18; refine A1 fun cb hc20 => ?_; refine vcK ?_
    try simp -implicitDefEqProofs (disch := omega) [go_sem, BD, BE, BF, AZ, A_]
    obtain ⟨x21, hx21, h⟩ := A4 h; refine A3.eqA (args' := [.v (str x19.2.1), .v (str ([32, 9]))]) (by first | with_reducible rfl | (simp -implicitDefEqProofs (disch := omega) [go_sem, BD, BE, BF, AZ, A_] <;> omega)) (Mf x19.2.1 ([32, 9]) hx21 ?_)
    try simp -implicitDefEqProofs (disch := omega) [go_sem, BD, BE, BF, AZ, A_]
    subst hc20; refine A1 fun cb hc22 => ?_; refine vcK ?_
    try simp -implicitDefEqProofs (disch := omega) [go_sem, BD, BE, BF, AZ, A_]
    obtain ⟨x23, hx23, h⟩ := A4 h; refine A3.eqA (args' := [.v (str x19.1)]) (by first | with_reducible rfl | (simp -implicitDefEqProofs (disch := omega) [go_sem, BD, BE, BF, AZ, A_] <;> omega)) (Fw x19.1 hx23 ?_); have hmL103 := @Oq _ (fun (x : List UInt8) => .v (str x))
    try dsimp only at hmL103
    have hmT103 := fun o => Rv (fun (x : List UInt8) => .v (str x)) ([] : List UInt8) (z := .v (str ([] : List UInt8))) (o := o) (by first | rfl | simp [go_sem])
    try dsimp only at hmT103
    try simp -implicitDefEqProofs (disch := omega) [go_sem, BD, BE, BF, AZ, A_, hmL103, hmT103]
    subst hc22; refine A1 fun cb hc24 => ?_; refine vcK ?_
    try simp -implicitDefEqProofs (disch := omega) [go_sem, BD, BE, BF, AZ, A_, hmL103, hmT103]
    refine A6 h (by first | with_reducible rfl | (simp -implicitDefEqProofs (disch := omega) [go_sem, BD, BE, BF, AZ, A_, hmL103, hmT103] <;> omega)) ?_ ?_
    ·intro c34 h
     try simp (disch := omega) at c34
     try simp -implicitDefEqProofs (disch := omega) [go_sem, BD, BE, BF, AZ, A_, hmL103, hmT103]
     obtain ⟨x25, hx25, h⟩ := A4 h; refine A3.eqA (args' := [.v (str x19.1)]) (by first | with_reducible rfl | (simp -implicitDefEqProofs (disch := omega) [go_sem, BD, BE, BF, AZ, A_, hmL103, hmT103] <;> omega)) (OU x19.1 hx25 ?_)
     try simp -implicitDefEqProofs (disch := omega) [go_sem, BD, BE, BF, AZ, A_, hmL103, hmT103]
     refine A6 h (by first | with_reducible rfl | (simp -implicitDefEqProofs (disch := omega) [go_sem, BD, BE, BF, AZ, A_, hmL103, hmT103] <;> omega)) ?_ ?_
     ·intro c33 h
      try simp (disch := omega) at c33
      try simp -implicitDefEqProofs (disch := omega) [go_sem, BD, BE, BF, AZ, A_, hmL103, hmT103]
      obtain ⟨x26, hx26, h⟩ := A4 h; refine A3.eqA (args' := [.v (str x21)]) (by first | with_reducible rfl | (simp -implicitDefEqProofs (disch := omega) [go_sem, BD, BE, BF, AZ, A_, hmL103, hmT103] <;> omega)) (OW x21 hx26 ?_)
      try simp -implicitDefEqProofs (disch := omega) [go_sem, BD, BE, BF, AZ, A_, hmL103, hmT103]
      refine A6 h (by first | with_reducible rfl | (simp -implicitDefEqProofs (disch := omega) [go_sem, BD, BE, BF, AZ, A_, hmL103, hmT103] <;> omega)) ?_ ?_
      ·intro c32 h
       try simp (disch := omega) at c32
       try simp -implicitDefEqProofs (disch := omega) [go_sem, BD, BE, BF, AZ, A_, hmL103, hmT103]
       refine A3.eqA (args' := [.v (.bool (!((BM v10 x23).isSome)))]) (by first | with_reducible rfl | (simp -implicitDefEqProofs (disch := omega) [go_sem, BD, BE, BF, AZ, A_, hmL103, hmT103] <;> omega)) ?_; by_cases m27 : ¬ (¬ ((BM v10 x23).isSome = true))
       ·rw [if_neg m27] at h; refine Bf  (by first | simpa using m27 | exact Bool.eq_false_iff.2 (fun q => m27 (by simpa using q))) ?_
        try simp (disch := omega) at m27
        have e7 := Option.some.inj h; subst e7; have e7 := hret7 _ rfl; subst e7; replace h : some ((.error ())) = some r := hk7; have er := Option.some.inj h; subst er
        try simp -implicitDefEqProofs (disch := omega) [go_sem, BD, BE, BF, AZ, A_, hmL103, hmT103]
        exact Bu (by exact Bm he7) ((Dl.refl _).del ka0) (hP _ rfl)
       have m27 := Classical.not_not.1 m27; rw [if_pos m27] at h; refine Cv  (by simpa using m27) ?_
       try simp (disch := omega) at m27
       try simp -implicitDefEqProofs (disch := omega) [go_sem, BD, BE, BF, AZ, A_, hmL103, hmT103]
       subst hc24; refine vcK ?_
       try simp -implicitDefEqProofs (disch := omega) [go_sem, BD, BE, BF, AZ, A_, hmL103, hmT103]
       obtain ⟨x28, hx28, h⟩ := A4 h; refine A3.eqA (args' := [.v (str x19.1)]) (by first | with_reducible rfl | (simp -implicitDefEqProofs (disch := omega) [go_sem, BD, BE, BF, AZ, A_, hmL103, hmT103] <;> omega)) (Fw x19.1 hx28 ?_); have hmS103 := fun m k v => Qg (fun (x : List UInt8) => .v (str x)) m k v
       try dsimp only at hmS103
       have hmi29 := hmS103 v10 x28 x21
       try simp -implicitDefEqProofs at hmi29
       try simp -implicitDefEqProofs (disch := omega) [go_sem, BD, BE, BF, AZ, A_, hmL103, hmT103, hmS103, hmi29]
       subst hc17; refine vcK ?_
       try simp -implicitDefEqProofs (disch := omega) [go_sem, BD, BE, BF, AZ, A_, hmL103, hmT103, hmS103, hmi29]
       obtain ⟨x30, hx30, h⟩ := A4 h; refine A3.eqA (args' := [.p ka0 0]) (by first | with_reducible rfl | (simp -implicitDefEqProofs (disch := omega) [go_sem, BD, BE, BF, AZ, A_, hmL103, hmT103, hmS103, hmi29] <;> omega)) (Fy v9 ka0 (by first | with_reducible assumption | simp -implicitDefEqProofs (disch := omega) [go_sem, BD, BE, BF, AZ, A_, hmL103, hmT103, hmS103, hmi29]) (by first | exact hV.of rfl | exact hV.of (he7).sn | exact hV.of (Ext.sn (H := H) (by exact A8 he7)) | exact (VOK.of hV rfl).tok | exact (VOK.of hV (he7).sn).tok | exact (VOK.of hV (Ext.sn (H := H) (by exact A8 he7))).tok) hx30 ?_ ?_)
       ·intro ex30 qx30; subst qx30; replace h := AP h; have e7 := Option.some.inj h; subst e7; have e7 := hret7 _ rfl; subst e7; replace h : some (.error ex30) = some r := hk7; have er := Option.some.inj h; subst er
        try simp -implicitDefEqProofs (disch := omega) [go_sem, BD, BE, BF, AZ, A_, hmL103, hmT103, hmS103, hmi29]
        exact Bu (by exact Bm he7) ((Dl.refl _).del ka0) (hP _ rfl)
       intro y31 qx30; subst qx30; replace h := B6 h
       try simp -implicitDefEqProofs (disch := omega) [go_sem, BD, BE, BF, AZ, A_, hmL103, hmT103, hmS103, hmi29]
       have e7 := Option.some.inj h; subst e7; refine Au hI7 (y31.1, y31.2, LS v10 x28 x21) ?_; refine .same ⟨by exact A8 he7, by first | with_reducible rfl | with_reducible assumption | omega | (simp -implicitDefEqProofs (disch := omega) [go_sem, BD, BE, BF, AZ, A_, hmL103, hmT103, hmS103, hmi29] <;> omega), ?_, ?_, ?_, ?_, ?_⟩ <;> first | with_reducible rfl | with_reducible assumption | (simp -implicitDefEqProofs (disch := omega) [go_sem, BD, BE, BF, AZ, A_, hmL103, hmT103, hmS103, hmi29] <;> omega)
      ·intro c32 h
       try simp (disch := omega) at c32
       try simp -implicitDefEqProofs (disch := omega) [go_sem, BD, BE, BF, AZ, A_, hmL103, hmT103]
       refine A3.eqA (args' := [.v (.bool false)]) (by first | with_reducible rfl | (simp -implicitDefEqProofs (disch := omega) [go_sem, BD, BE, BF, AZ, A_, hmL103, hmT103] <;> omega)) (Bf  rfl ?_); have e7 := Option.some.inj h; subst e7; have e7 := hret7 _ rfl; subst e7; replace h : some ((.error ())) = some r := hk7; have er := Option.some.inj h; subst er
       try simp -implicitDefEqProofs (disch := omega) [go_sem, BD, BE, BF, AZ, A_, hmL103, hmT103]
       exact Bu (by exact Bm he7) ((Dl.refl _).del ka0) (hP _ rfl)
     ·intro c33 h
      try simp (disch := omega) at c33
      try simp -implicitDefEqProofs (disch := omega) [go_sem, BD, BE, BF, AZ, A_, hmL103, hmT103]
      refine A3.eqA (args' := [.v (.bool false)]) (by first | with_reducible rfl | (simp -implicitDefEqProofs (disch := omega) [go_sem, BD, BE, BF, AZ, A_, hmL103, hmT103] <;> omega)) (Bf  rfl ?_); have e7 := Option.some.inj h; subst e7; have e7 := hret7 _ rfl; subst e7; replace h : some ((.error ())) = some r := hk7; have er := Option.some.inj h; subst er
      try simp -implicitDefEqProofs (disch := omega) [go_sem, BD, BE, BF, AZ, A_, hmL103, hmT103]
      exact Bu (by exact Bm he7) ((Dl.refl _).del ka0) (hP _ rfl)
    ·intro c34 h
     try simp (disch := omega) at c34
     try simp -implicitDefEqProofs (disch := omega) [go_sem, BD, BE, BF, AZ, A_, hmL103, hmT103]
     refine A3.eqA (args' := [.v (.bool false)]) (by first | with_reducible rfl | (simp -implicitDefEqProofs (disch := omega) [go_sem, BD, BE, BF, AZ, A_, hmL103, hmT103] <;> omega)) (Bf  rfl ?_); have e7 := Option.some.inj h; subst e7; have e7 := hret7 _ rfl; subst e7; replace h : some ((.error ())) = some r := hk7; have er := Option.some.inj h; subst er
     try simp -implicitDefEqProofs (disch := omega) [go_sem, BD, BE, BF, AZ, A_, hmL103, hmT103]
     exact Bu (by exact Bm he7) ((Dl.refl _).del ka0) (hP _ rfl)
   ·intro c16 h
    try simp (disch := omega) at c16
    refine vcK ?_; simp -implicitDefEqProofs only [go_sem]; have e7 := Option.some.inj h; subst e7; have hy7 := hret7 _ rfl; refine hc7 _ _ ?_; refine .same ⟨v9, v10, hy7, by exact A8 he7, by first | with_reducible rfl | with_reducible assumption | omega | (simp -implicitDefEqProofs (disch := omega) [go_sem, BD, BE, BF, AZ, A_] <;> omega), ?_, ?_, ?_⟩ <;> first | with_reducible rfl | with_reducible assumption | (simp -implicitDefEqProofs (disch := omega) [go_sem, BD, BE, BF, AZ, A_] <;> omega)
noncomputable def F91 (a0 : AA) (a1 : Int) : Option (Except Unit ((List UInt8) × AA)) :=
 if a1 ≤ (a0.Bb.fb.length : Int) then (gd (0 ≤ a1) (gd (a1 ≤ a0.Bb.fb.length) ((T7 (a0.Bb.fb.take a1.toNat)).bind fun (x7 : (List UInt8)) => some ((.ok ((x7, (⟨(⟨a0.Bb.fb.drop a1.toNat⟩ : S98)⟩ : AA)))))))) else (some (.error ()))
set_option maxHeartbeats 8000000 in
set_option pp.deepTerms false in
set_option maxRecDepth 60000 in
theorem Mn {H : A0} {K : Am → A0 → Prop} (a0 : AA) (a1 : Int) (ka0 : Nat) (Ac : H.obj ka0 = some (.cells ([.sl 1 (a0.Bb.fb.map fun x => [.v (.int .u8 x.toNat)])]))) {r : Except Unit ((List UInt8) × AA)} (h : F91 a0 a1 = some r) (hP : ∀ e, r = .error e → K (.pan (C8 e)) (H.del ka0)) (hK : ∀ v : (List UInt8) × AA, r = .ok v → K (.ret (.sl 1 (v.1.map fun x => [.v (.int .u8 x.toNat)]))) (Dh H [(ka0, .cells ([.sl 1 (v.2.Bb.fb.map fun x => [.v (.int .u8 x.toNat)])]))])) : A3 prog 91 [.p ka0 0, .v (.int .i64 a1)] H K := by
 refine A9 (N := 35) func91 (by kernel_rfl) rfl (by kernel_rfl) (by kernel_rfl) fun cb hcb hw hbd hnb => ?_; clear hbd hnb; subst hcb; unfold F91 at h; have NC : ka0 < H.next := Nat.lt_of_not_le fun q => by rw [hw _ q] at Ac; cases Ac
 refine A1 fun cb hc1 => ?_; refine vcK ?_
 try simp -implicitDefEqProofs (disch := omega) [go_sem, Ac]
 subst hc1; refine A1 fun cb hc2 => ?_; refine vcK ?_
 try simp -implicitDefEqProofs (disch := omega) [go_sem, Ac]
 refine A3.eqA (args' := [.v (.bool (decide (a1 ≤ (a0.Bb.fb.length : Int))))]) (by first | with_reducible rfl | (simp -implicitDefEqProofs (disch := omega) [go_sem, Ac] <;> omega)) ?_; by_cases m3 : ¬ (a1 ≤ (a0.Bb.fb.length : Int))
 ·rw [if_neg m3] at h; refine Bf  (by first | simpa using m3 | exact Bool.eq_false_iff.2 (fun q => m3 (by simpa using q))) ?_
  try simp (disch := omega) at m3
  have er := Option.some.inj h; subst er
  try simp -implicitDefEqProofs (disch := omega) [go_sem, Ac]
  exact Bu (by exact Bm (Ext.Ao (Ext.refl hw) ka0)) ((Dl.refl _).del ka0) (hP _ rfl)
 have m3 := Classical.not_not.1 m3; rw [if_pos m3] at h; refine Cv  (by simpa using m3) ?_
 try simp (disch := omega) at m3
 try simp -implicitDefEqProofs (disch := omega) [go_sem, Ac]
 subst hc2; refine A1 fun cb hc4 => ?_; refine vcK ?_; obtain ⟨g5, h⟩ := A7.1 h
 try simp (disch := omega) at g5
 obtain ⟨g6, h⟩ := A7.1 h
 try simp (disch := omega) at g6
 try simp -implicitDefEqProofs (disch := omega) [go_sem, Ac]
 obtain ⟨x7, hx7, h⟩ := A4 h; refine A3.eqA (args' := [.sl 1 ((a0.Bb.fb.take a1.toNat).map fun x => [.v (.int .u8 x.toNat)])]) (by first | with_reducible rfl | (simp -implicitDefEqProofs (disch := omega) [go_sem, Ac] <;> omega)) (QC (a0.Bb.fb.take a1.toNat) hx7 ?_)
 try simp -implicitDefEqProofs (disch := omega) [go_sem, Ac]
 subst hc4; refine A1 fun cb hc8 => ?_; refine vcK ?_
 try simp -implicitDefEqProofs (disch := omega) [go_sem, Ac]
 subst hc8; refine A1 fun cb hc9 => ?_; refine vcK ?_
 try simp -implicitDefEqProofs (disch := omega) [go_sem, Ac]
 subst hc9; refine vcK ?_; simp -implicitDefEqProofs only [go_sem]; have er := Option.some.inj h; subst er
 try simp -implicitDefEqProofs (disch := omega) [go_sem, Ac]
 refine AL (r' := .sl 1 (x7.map fun x => [.v (.int .u8 x.toNat)])) (io1 ka0 (.cells ([.sl 1 ((a0.Bb.fb.drop a1.toNat).map fun x => [.v (.int .u8 x.toNat)])])) (by exact A8 (Ext.Ao (Ext.refl hw) ka0)) (by omega) (by first | with_reducible assumption | rfl | simp -implicitDefEqProofs (disch := omega) [go_sem, Ac]) (by first | exact nbA | exact BP | exact BB)) (by first | with_reducible rfl | (simp -implicitDefEqProofs (disch := omega) [go_sem, Ac] <;> omega)) (.same (by first | exact nbA | exact BP | exact BB)) (hK _ rfl)
end Go.Idl
namespace Go.Idl
open Go Go.Proofs.Tryz
noncomputable def EC (v4 : List UInt8) (v6 : AA) : Option (((List UInt8) × AA) ⊕ (Except Unit ((List UInt8) × AA))) :=
 (F64 v6).bind fun (x8 : Except Unit ((List UInt8) × AA)) => orP x8 (fun (ex8 : Unit) => some (.inr (.error ex8))) (fun (y9 : (List UInt8) × AA) => (Ta y9.1 16 32).bind fun (x11 : Int × Bool) => if ¬ x11.2 = true then (if 1 ≤ (y9.1.length : Int) then (if (y9.1.length : Int) ≤ 5 then ((F80 y9.1 ([48, 49, 50, 51, 52, 53, 54, 55, 56, 57, 97, 98, 99, 100, 101, 102, 65, 66, 67, 68, 69, 70])).bind fun (x13 : (List UInt8)) => if x13 = [] then (if x11.1 = 0 then (if y9.1 = ([48]) then ((F64 y9.2).bind fun (x19 : Except Unit ((List UInt8) × AA)) => orP x19 (fun (ex19 : Unit) => some (.inr (.error ex19))) (fun (y20 : (List UInt8) × AA) => if y20.1 = [] then (some (.inr ((.ok (v4, y20.2))))) else (some (.inr (.error ()))))) else (some (.inr (.error ())))) else ((F91 y9.2 (IntKind.i64.wrap x11.1)).bind fun (x25 : Except Unit ((List UInt8) × AA)) => orP x25 (fun (ex25 : Unit) => some (.inr (.error ex25))) (fun (y26 : (List UInt8) × AA) => gd ((v4.length + y26.1.length) * 1 ≤ 140737488355328) ((F64 y26.2).bind fun (x28 : Except Unit ((List UInt8) × AA)) => orP x28 (fun (ex28 : Unit) => some (.inr (.error ex28))) (fun (y29 : (List UInt8) × AA) => if y29.1 = [] then (some (.inl (v4 ++ y26.1, y29.2))) else (some (.inr (.error ())))))))) else (some (.inr (.error ())))) else (some (.inr (.error ())))) else (some (.inr (.error ())))) else (some (.inr (.error ()))))
noncomputable def F90 (a0 : AA) : Option (Except Unit ((List UInt8) × AA)) :=
 (B3 (fun (s : (List UInt8) × AA) => EC s.1 s.2) ([], a0)).bind fun (q : Except Unit ((List UInt8) × AA)) => some q
set_option maxHeartbeats 8000000 in
set_option pp.deepTerms false in
set_option maxRecDepth 60000 in
theorem P5 {H : A0} {K : Am → A0 → Prop} (a0 : AA) (ka0 : Nat) (Ac : H.obj ka0 = some (.cells ([.sl 1 (a0.Bb.fb.map fun x => [.v (.int .u8 x.toNat)])]))) (hV : VOK prog H) {r : Except Unit ((List UInt8) × AA)} (h : F90 a0 = some r) (hP : ∀ e, r = .error e → K (.pan (C8 e)) (H.del ka0)) (hK : ∀ v : (List UInt8) × AA, r = .ok v → K (.ret (.sl 1 (v.1.map fun x => [.v (.int .u8 x.toNat)]))) (Dh H [(ka0, .cells ([.sl 1 (v.2.Bb.fb.map fun x => [.v (.int .u8 x.toNat)])]))])) : A3 prog 90 [.p ka0 0] H K := by
 refine A9 (N := 53) func90 (by kernel_rfl) rfl (by kernel_rfl) (by kernel_rfl) fun cb hcb hw hbd hnb => ?_; clear hbd hnb; subst hcb; unfold F90 at h; have NC : ka0 < H.next := Nat.lt_of_not_le fun q => by rw [hw _ q] at Ac; cases Ac
 refine A1 fun cb hc1 => ?_; refine vcK ?_
 try simp -implicitDefEqProofs (disch := omega) [go_sem, Ac]
 subst hc1; refine A1 fun cb hc2 => ?_; refine vcK ?_
 try simp -implicitDefEqProofs (disch := omega) [go_sem, Ac]
 subst hc2; obtain ⟨y3, hl3q, hk3⟩ := A4 h; refine Af ?_; refine AN (fun (s : (List UInt8) × AA) tm' H' => ∃ n5 : Nat, Ext (H.del ka0) H' ∧ H.next ≤ H'.next ∧ H.next ≤ n5 ∧ n5 < H'.next ∧ ¬ ka0 = n5 ∧ tm' 0 = .p ka0 0 ∧ tm' 3 = .os n5 s.1.length ∧ H'.obj ka0 = some (.cells ([.sl 1 (s.2.Bb.fb.map fun x => [.v (.int .u8 x.toNat)])])) ∧ H'.obj n5 = some (.row 1 (s.1.map fun x => [.v (.int .u8 x.toNat)]))) hl3q ?_ ?_
 ·refine UpI.gh (Gh.J_ (d := 3) (sz := 1) (by omega) (by (simp -implicitDefEqProofs (disch := omega) [go_sem, Ac] <;> omega))) ?_; refine .same ⟨H.next, by exact A8 (Ext.Ao (Ext.refl hw) ka0), by first | with_reducible rfl | with_reducible assumption | omega | (simp -implicitDefEqProofs (disch := omega) [go_sem, Ac] <;> omega), by first | with_reducible rfl | with_reducible assumption | omega | (simp -implicitDefEqProofs (disch := omega) [go_sem, Ac] <;> omega), by first | with_reducible rfl | with_reducible assumption | omega | (simp -implicitDefEqProofs (disch := omega) [go_sem, Ac] <;> omega), by first | with_reducible rfl | with_reducible assumption | omega | (simp -implicitDefEqProofs (disch := omega) [go_sem, Ac] <;> omega), ?_, ?_, ?_, ?_⟩ <;> first | with_reducible rfl | with_reducible assumption | (simp -implicitDefEqProofs (disch := omega) [go_sem, Ac] <;> omega)
 ·rintro I3 hI3 ⟨v4, v6⟩ x3 tm3 H3 ⟨n5, he3, hl3, Y4, Y5, hq34, AR, AS, Aq, Ar⟩ h hret3
  replace h : EC v4 v6 = some x3 := h; unfold EC at h; refine Af ?_; refine A1 fun cb hc7 => ?_; refine vcK ?_
  try simp -implicitDefEqProofs (disch := omega) [go_sem, AR, AS, Aq, Ar]
  obtain ⟨x8, hx8, h⟩ := A4 h; refine A3.eqA (args' := [.p ka0 0]) (by first | with_reducible rfl | (simp -implicitDefEqProofs (disch := omega) [go_sem, AR, AS, Aq, Ar] <;> omega)) (Fy v6 ka0 (by first | with_reducible assumption | simp -implicitDefEqProofs (disch := omega) [go_sem, AR, AS, Aq, Ar]) (by first | exact hV.of rfl | exact hV.of (he3).sn | exact hV.of (Ext.sn (H := H) (by exact A8 he3)) | exact (VOK.of hV rfl).tok | exact (VOK.of hV (he3).sn).tok | exact (VOK.of hV (Ext.sn (H := H) (by exact A8 he3))).tok) hx8 ?_ ?_)
  ·intro ex8 qx8; subst qx8; replace h := AP h; have e3 := Option.some.inj h; subst e3; have e3 := hret3 _ rfl; subst e3; replace h : some (.error ex8) = some r := hk3; have er := Option.some.inj h; subst er
   try simp -implicitDefEqProofs (disch := omega) [go_sem, AR, AS, Aq, Ar]
   exact Bu (by exact Bm he3) ((Dl.refl _).del ka0) (hP _ rfl)
  intro y9 qx8; subst qx8; replace h := B6 h
  try simp -implicitDefEqProofs (disch := omega) [go_sem, AR, AS, Aq, Ar]
  subst hc7; refine A1 fun cb hc10 => ?_; refine vcK ?_
  try simp -implicitDefEqProofs (disch := omega) [go_sem, AR, AS, Aq, Ar]
  obtain ⟨x11, hx11, h⟩ := A4 h; refine A3.eqA (args' := [.v (str y9.1), .v (.int .i64 16), .v (.int .i64 32)]) (by first | with_reducible rfl | (simp -implicitDefEqProofs (disch := omega) [go_sem, AR, AS, Aq, Ar] <;> omega)) (QI y9.1 16 32 (by first | exact hV.of rfl | exact hV.of (he3).sn | exact hV.of (Ext.sn (H := H) (by exact A8 he3)) | exact (VOK.of hV rfl).tok | exact (VOK.of hV (he3).sn).tok | exact (VOK.of hV (Ext.sn (H := H) (by exact A8 he3))).tok) hx11 ?_)
  try simp -implicitDefEqProofs (disch := omega) [go_sem, AR, AS, Aq, Ar]
  subst hc10; refine A1 fun cb hc12 => ?_; refine vcK ?_
  try simp -implicitDefEqProofs (disch := omega) [go_sem, AR, AS, Aq, Ar]
  refine A6 h (by first | with_reducible rfl | (simp -implicitDefEqProofs (disch := omega) [go_sem, AR, AS, Aq, Ar] <;> omega)) ?_ ?_
  ·intro c33 h
   try simp (disch := omega) at c33
   try simp -implicitDefEqProofs (disch := omega) [go_sem, AR, AS, Aq, Ar]
   refine A6 h (by first | with_reducible rfl | (simp -implicitDefEqProofs (disch := omega) [go_sem, AR, AS, Aq, Ar] <;> omega)) ?_ ?_
   ·intro c32 h
    try simp (disch := omega) at c32
    try simp -implicitDefEqProofs (disch := omega) [go_sem, AR, AS, Aq, Ar]
    refine A6 h (by first | with_reducible rfl | (simp -implicitDefEqProofs (disch := omega) [go_sem, AR, AS, Aq, Ar] <;> omega)) ?_ ?_
    ·intro c31 h
     try simp (disch := omega) at c31
     try simp -implicitDefEqProofs (disch := omega) [go_sem, AR, AS, Aq, Ar]
     obtain ⟨x13, hx13, h⟩ := A4 h; refine A3.eqA (args' := [.v (str y9.1), .v (str ([48, 49, 50, 51, 52, 53, 54, 55, 56, 57, 97, 98, 99, 100, 101, 102, 65, 66, 67, 68, 69, 70]))]) (by first | with_reducible rfl | (simp -implicitDefEqProofs (disch := omega) [go_sem, AR, AS, Aq, Ar] <;> omega)) (Mf y9.1 ([48, 49, 50, 51, 52, 53, 54, 55, 56, 57, 97, 98, 99, 100, 101, 102, 65, 66, 67, 68, 69, 70]) hx13 ?_)
     try simp -implicitDefEqProofs (disch := omega) [go_sem, AR, AS, Aq, Ar]
     refine A3.eqA (args' := [.v (.bool (decide (x13 = [])))]) (by first | with_reducible rfl | (simp -implicitDefEqProofs (disch := omega) [go_sem, AR, AS, Aq, Ar] <;> omega)) ?_; by_cases m14 : ¬ (x13 = [])
     ·rw [if_neg m14] at h; refine Bf  (by first | simpa using m14 | exact Bool.eq_false_iff.2 (fun q => m14 (by simpa using q))) ?_
      try simp (disch := omega) at m14
      have e3 := Option.some.inj h; subst e3; have e3 := hret3 _ rfl; subst e3; replace h : some ((.error ())) = some r := hk3; have er := Option.some.inj h; subst er
      try simp -implicitDefEqProofs (disch := omega) [go_sem, AR, AS, Aq, Ar]
      exact Bu (by exact Bm he3) ((Dl.refl _).del ka0) (hP _ rfl)
     have m14 := Classical.not_not.1 m14; rw [if_pos m14] at h; refine Cv  (by simpa using m14) ?_
     try simp (disch := omega) at m14
     try simp -implicitDefEqProofs (disch := omega) [go_sem, AR, AS, Aq, Ar]
     subst hc12; refine A1 fun cb hc15 => ?_; refine A1 fun cb hc16 => ?_; refine vcK ?_
     try simp -implicitDefEqProofs (disch := omega) [go_sem, AR, AS, Aq, Ar]
     subst hc16; refine Aa h (by first | with_reducible rfl | (simp -implicitDefEqProofs (disch := omega) [go_sem, AR, AS, Aq, Ar] <;> omega)) rfl ?_ ?_
     ·intro c17 h
      try simp (disch := omega) at c17
      refine A1 fun cb hc18 => ?_; refine vcK ?_
      try simp -implicitDefEqProofs (disch := omega) [go_sem, AR, AS, Aq, Ar]
      refine A6 h (by first | with_reducible rfl | (simp -implicitDefEqProofs (disch := omega) [go_sem, AR, AS, Aq, Ar] <;> omega)) ?_ ?_
      ·intro c23 h
       try simp (disch := omega) at c23
       try simp -implicitDefEqProofs (disch := omega) [go_sem, AR, AS, Aq, Ar]
       obtain ⟨x19, hx19, h⟩ := A4 h; refine A3.eqA (args' := [.p ka0 0]) (by first | with_reducible rfl | (simp -implicitDefEqProofs (disch := omega) [go_sem, AR, AS, Aq, Ar] <;> omega)) (Fy y9.2 ka0 (by first | with_reducible assumption | simp -implicitDefEqProofs (disch := omega) [go_sem, AR, AS, Aq, Ar]) (by first | exact hV.of rfl | exact hV.of (he3).sn | exact hV.of (Ext.sn (H := H) (by exact A8 he3)) | exact (VOK.of hV rfl).tok | exact (VOK.of hV (he3).sn).tok | exact (VOK.of hV (Ext.sn (H := H) (by exact A8 he3))).tok) hx19 ?_ ?_)
       ·intro ex19 qx19; subst qx19; replace h := AP h; have e3 := Option.some.inj h; subst e3; have e3 := hret3 _ rfl; subst e3; replace h : some (.error ex19) = some r := hk3; have er := Option.some.inj h; subst er
        try simp -implicitDefEqProofs (disch := omega) [go_sem, AR, AS, Aq, Ar]
        exact Bu (by exact Bm he3) ((Dl.refl _).del ka0) (hP _ rfl)
       intro y20 qx19; subst qx19; replace h := B6 h
       try simp -implicitDefEqProofs (disch := omega) [go_sem, AR, AS, Aq, Ar]
       refine A3.eqA (args' := [.v (.bool (decide (y20.1 = [])))]) (by first | with_reducible rfl | (simp -implicitDefEqProofs (disch := omega) [go_sem, AR, AS, Aq, Ar] <;> omega)) ?_; by_cases m21 : ¬ (y20.1 = [])
       ·rw [if_neg m21] at h; refine Bf  (by first | simpa using m21 | exact Bool.eq_false_iff.2 (fun q => m21 (by simpa using q))) ?_
        try simp (disch := omega) at m21
        have e3 := Option.some.inj h; subst e3; have e3 := hret3 _ rfl; subst e3; replace h : some ((.error ())) = some r := hk3; have er := Option.some.inj h; subst er
        try simp -implicitDefEqProofs (disch := omega) [go_sem, AR, AS, Aq, Ar]
        exact Bu (by exact Bm he3) ((Dl.refl _).del ka0) (hP _ rfl)
       have m21 := Classical.not_not.1 m21; rw [if_pos m21] at h; refine Cv  (by simpa using m21) ?_
       try simp (disch := omega) at m21
       try simp -implicitDefEqProofs (disch := omega) [go_sem, AR, AS, Aq, Ar]
       subst hc18; refine A1 fun cb hc22 => ?_; refine vcK ?_
       try simp -implicitDefEqProofs (disch := omega) [go_sem, AR, AS, Aq, Ar]
       subst hc22; refine IWp.gh (Gh.freeze (d := 2) (k := n5) (sz := 1) (es := v4.map fun x => [.v (.int .u8 x.toNat)]) (by (simp -implicitDefEqProofs (disch := omega) [go_sem, AR, AS, Aq, Ar] <;> omega)) (by (simp -implicitDefEqProofs (disch := omega) [go_sem, AR, AS, Aq, Ar] <;> omega))) ?_; refine vcK ?_; simp -implicitDefEqProofs only [go_sem]; have e3 := Option.some.inj h; subst e3; have e3 := hret3 _ rfl; subst e3; replace h : some ((.ok (v4, y20.2))) = some r := hk3; have er := Option.some.inj h; subst er
       try simp -implicitDefEqProofs (disch := omega) [go_sem, AR, AS, Aq, Ar]
       refine AL (r' := .sl 1 (v4.map fun x => [.v (.int .u8 x.toNat)])) (io1 ka0 (.cells ([.sl 1 (y20.2.Bb.fb.map fun x => [.v (.int .u8 x.toNat)])])) (by exact A8 he3) (by omega) (by first | with_reducible assumption | rfl | simp -implicitDefEqProofs (disch := omega) [go_sem, AR, AS, Aq, Ar]) (by first | exact nbA | exact BP | exact BB)) (by first | with_reducible rfl | (simp -implicitDefEqProofs (disch := omega) [go_sem, AR, AS, Aq, Ar] <;> omega)) (.same (by first | exact nbA | exact BP | exact BB)) (hK _ rfl)
      ·intro c23 h
       try simp (disch := omega) at c23
       try simp -implicitDefEqProofs (disch := omega) [go_sem, AR, AS, Aq, Ar]
       refine A3.eqA (args' := [.v (.bool false)]) (by first | with_reducible rfl | (simp -implicitDefEqProofs (disch := omega) [go_sem, AR, AS, Aq, Ar] <;> omega)) (Bf  rfl ?_); have e3 := Option.some.inj h; subst e3; have e3 := hret3 _ rfl; subst e3; replace h : some ((.error ())) = some r := hk3; have er := Option.some.inj h; subst er
       try simp -implicitDefEqProofs (disch := omega) [go_sem, AR, AS, Aq, Ar]
       exact Bu (by exact Bm he3) ((Dl.refl _).del ka0) (hP _ rfl)
     ·intro c17 h
      try simp (disch := omega) at c17
      refine vcK ?_; simp -implicitDefEqProofs only [go_sem]; subst hc15; refine A1 fun cb hc24 => ?_; refine vcK ?_
      try simp -implicitDefEqProofs (disch := omega) [go_sem, AR, AS, Aq, Ar]
      obtain ⟨x25, hx25, h⟩ := A4 h; refine A3.eqA (args' := [.p ka0 0, .v (.int .i64 (IntKind.i64.wrap x11.1))]) (by first | with_reducible rfl | (simp -implicitDefEqProofs (disch := omega) [go_sem, AR, AS, Aq, Ar] <;> omega)) (Mn y9.2 (IntKind.i64.wrap x11.1) ka0 (by first | with_reducible assumption | simp -implicitDefEqProofs (disch := omega) [go_sem, AR, AS, Aq, Ar]) hx25 ?_ ?_)
      ·intro ex25 qx25; subst qx25; replace h := AP h; have e3 := Option.some.inj h; subst e3; have e3 := hret3 _ rfl; subst e3; replace h : some (.error ex25) = some r := hk3; have er := Option.some.inj h; subst er
       try simp -implicitDefEqProofs (disch := omega) [go_sem, AR, AS, Aq, Ar]
       exact Bu (by exact Bm he3) ((Dl.refl _).del ka0) (hP _ rfl)
      intro y26 qx25; subst qx25; replace h := B6 h; obtain ⟨g27, h⟩ := A7.1 h
      try simp (disch := omega) at g27
      try simp -implicitDefEqProofs (disch := omega) [go_sem, AR, AS, Aq, Ar]
      subst hc24; refine vcK ?_
      try simp -implicitDefEqProofs (disch := omega) [go_sem, AR, AS, Aq, Ar]
      obtain ⟨x28, hx28, h⟩ := A4 h; refine A3.eqA (args' := [.p ka0 0]) (by first | with_reducible rfl | (simp -implicitDefEqProofs (disch := omega) [go_sem, AR, AS, Aq, Ar] <;> omega)) (Fy y26.2 ka0 (by first | with_reducible assumption | simp -implicitDefEqProofs (disch := omega) [go_sem, AR, AS, Aq, Ar]) (by first | exact hV.of rfl | exact hV.of (he3).sn | exact hV.of (Ext.sn (H := H) (by exact A8 he3)) | exact (VOK.of hV rfl).tok | exact (VOK.of hV (he3).sn).tok | exact (VOK.of hV (Ext.sn (H := H) (by exact A8 he3))).tok) hx28 ?_ ?_)
      ·intro ex28 qx28; subst qx28; replace h := AP h; have e3 := Option.some.inj h; subst e3; have e3 := hret3 _ rfl; subst e3; replace h : some (.error ex28) = some r := hk3; have er := Option.some.inj h; subst er
       try simp -implicitDefEqProofs (disch := omega) [go_sem, AR, AS, Aq, Ar]
       exact Bu (by exact Bm he3) ((Dl.refl _).del ka0) (hP _ rfl)
      intro y29 qx28; subst qx28; replace h := B6 h
      try simp -implicitDefEqProofs (disch := omega) [go_sem, AR, AS, Aq, Ar]
      refine A3.eqA (args' := [.v (.bool (decide (y29.1 = [])))]) (by first | with_reducible rfl | (simp -implicitDefEqProofs (disch := omega) [go_sem, AR, AS, Aq, Ar] <;> omega)) ?_; by_cases m30 : ¬ (y29.1 = [])
      ·rw [if_neg m30] at h; refine Bf  (by first | simpa using m30 | exact Bool.eq_false_iff.2 (fun q => m30 (by simpa using q))) ?_
       try simp (disch := omega) at m30
       have e3 := Option.some.inj h; subst e3; have e3 := hret3 _ rfl; subst e3; replace h : some ((.error ())) = some r := hk3; have er := Option.some.inj h; subst er
       try simp -implicitDefEqProofs (disch := omega) [go_sem, AR, AS, Aq, Ar]
       exact Bu (by exact Bm he3) ((Dl.refl _).del ka0) (hP _ rfl)
      have m30 := Classical.not_not.1 m30; rw [if_pos m30] at h; refine Cv  (by simpa using m30) ?_
      try simp (disch := omega) at m30
      try simp -implicitDefEqProofs (disch := omega) [go_sem, AR, AS, Aq, Ar]
      have e3 := Option.some.inj h; subst e3; refine Au hI3 (v4 ++ y26.1, y29.2) ?_; refine .same ⟨n5, by exact A8 he3, by first | with_reducible rfl | with_reducible assumption | omega | (simp -implicitDefEqProofs (disch := omega) [go_sem, AR, AS, Aq, Ar] <;> omega), by first | with_reducible rfl | with_reducible assumption | omega | (simp -implicitDefEqProofs (disch := omega) [go_sem, AR, AS, Aq, Ar] <;> omega), by first | with_reducible rfl | with_reducible assumption | omega | (simp -implicitDefEqProofs (disch := omega) [go_sem, AR, AS, Aq, Ar] <;> omega), by first | with_reducible rfl | with_reducible assumption | omega | (simp -implicitDefEqProofs (disch := omega) [go_sem, AR, AS, Aq, Ar] <;> omega), ?_, ?_, ?_, ?_⟩ <;> first | with_reducible rfl | with_reducible assumption | (simp -implicitDefEqProofs (disch := omega) [go_sem, AR, AS, Aq, Ar] <;> omega)
    ·intro c31 h
     try simp (disch := omega) at c31
     try simp -implicitDefEqProofs (disch := omega) [go_sem, AR, AS, Aq, Ar]
     refine A3.eqA (args' := [.v (.bool false)]) (by first | with_reducible rfl | (simp -implicitDefEqProofs (disch := omega) [go_sem, AR, AS, Aq, Ar] <;> omega)) (Bf  rfl ?_); have e3 := Option.some.inj h; subst e3; have e3 := hret3 _ rfl; subst e3; replace h : some ((.error ())) = some r := hk3; have er := Option.some.inj h; subst er
     try simp -implicitDefEqProofs (disch := omega) [go_sem, AR, AS, Aq, Ar]
     exact Bu (by exact Bm he3) ((Dl.refl _).del ka0) (hP _ rfl)
   ·intro c32 h
    try simp (disch := omega) at c32
    try simp -implicitDefEqProofs (disch := omega) [go_sem, AR, AS, Aq, Ar]
    refine A3.eqA (args' := [.v (.bool false)]) (by first | with_reducible rfl | (simp -implicitDefEqProofs (disch := omega) [go_sem, AR, AS, Aq, Ar] <;> omega)) (Bf  rfl ?_); have e3 := Option.some.inj h; subst e3; have e3 := hret3 _ rfl; subst e3; replace h : some ((.error ())) = some r := hk3; have er := Option.some.inj h; subst er
    try simp -implicitDefEqProofs (disch := omega) [go_sem, AR, AS, Aq, Ar]
    exact Bu (by exact Bm he3) ((Dl.refl _).del ka0) (hP _ rfl)
  ·intro c33 h
   try simp (disch := omega) at c33
   try simp -implicitDefEqProofs (disch := omega) [go_sem, AR, AS, Aq, Ar]
   refine A3.eqA (args' := [.v (.bool false)]) (by first | with_reducible rfl | (simp -implicitDefEqProofs (disch := omega) [go_sem, AR, AS, Aq, Ar] <;> omega)) (Bf  rfl ?_); have e3 := Option.some.inj h; subst e3; have e3 := hret3 _ rfl; subst e3; replace h : some ((.error ())) = some r := hk3; have er := Option.some.inj h; subst er
   try simp -implicitDefEqProofs (disch := omega) [go_sem, AR, AS, Aq, Ar]
   exact Bu (by exact Bm he3) ((Dl.refl _).del ka0) (hP _ rfl)
end Go.Idl
namespace Go.Idl
open Go Go.Proofs.Tryz
noncomputable def F66 (a0 : AA) (a1 : List (List UInt8 × (List UInt8))) : Option (Except Unit ((List UInt8) × AA × (List (List UInt8 × (List UInt8))))) :=
 if ¬ ((BM a1 ([99, 111, 110, 116, 101, 110, 116, 45, 108, 101, 110, 103, 116, 104])).isSome = true) then (if (BM a1 ([116, 114, 97, 110, 115, 102, 101, 114, 45, 101, 110, 99, 111, 100, 105, 110, 103])).isSome = true then ((F57 ((BM a1 ([116, 114, 97, 110, 115, 102, 101, 114, 45, 101, 110, 99, 111, 100, 105, 110, 103])).getD [])).bind fun (x11 : (List UInt8)) => if x11 = ([99, 104, 117, 110, 107, 101, 100]) then ((F90 a0).bind fun (x14 : Except Unit ((List UInt8) × AA)) => orP x14 (fun (ex14 : Unit) => some (.error ex14)) (fun (y15 : (List UInt8) × AA) => some ((.ok ((y15.1, y15.2, C4 (C4 a1 ([99, 111, 110, 116, 101, 110, 116, 45, 108, 101, 110, 103, 116, 104])) ([116, 114, 97, 110, 115, 102, 101, 114, 45, 101, 110, 99, 111, 100, 105, 110, 103]))))))) else (some (.error ()))) else (if ¬ ((BM a1 ([99, 111, 110, 116, 101, 110, 116, 45, 108, 101, 110, 103, 116, 104])).isSome = true) then (some ((.ok (([], a0, C4 (C4 a1 ([99, 111, 110, 116, 101, 110, 116, 45, 108, 101, 110, 103, 116, 104])) ([116, 114, 97, 110, 115, 102, 101, 114, 45, 101, 110, 99, 111, 100, 105, 110, 103])))))) else ((F33 ((BM a1 ([99, 111, 110, 116, 101, 110, 116, 45, 108, 101, 110, 103, 116, 104])).getD [])).bind fun (x21 : Int × Bool) => if ¬ x21.2 = true then (if 0 ≤ x21.1 then ((F29 x21.1).bind fun (x23 : (List UInt8)) => if x23 = ((BM a1 ([99, 111, 110, 116, 101, 110, 116, 45, 108, 101, 110, 103, 116, 104])).getD []) then ((F91 a0 x21.1).bind fun (x26 : Except Unit ((List UInt8) × AA)) => orP x26 (fun (ex26 : Unit) => some (.error ex26)) (fun (y27 : (List UInt8) × AA) => some ((.ok ((y27.1, y27.2, C4 (C4 a1 ([99, 111, 110, 116, 101, 110, 116, 45, 108, 101, 110, 103, 116, 104])) ([116, 114, 97, 110, 115, 102, 101, 114, 45, 101, 110, 99, 111, 100, 105, 110, 103]))))))) else (some (.error ()))) else (some (.error ()))) else (some (.error ()))))) else (if ¬ ((BM a1 ([116, 114, 97, 110, 115, 102, 101, 114, 45, 101, 110, 99, 111, 100, 105, 110, 103])).isSome = true) then (if (BM a1 ([116, 114, 97, 110, 115, 102, 101, 114, 45, 101, 110, 99, 111, 100, 105, 110, 103])).isSome = true then ((F57 ((BM a1 ([116, 114, 97, 110, 115, 102, 101, 114, 45, 101, 110, 99, 111, 100, 105, 110, 103])).getD [])).bind fun (x35 : (List UInt8)) => if x35 = ([99, 104, 117, 110, 107, 101, 100]) then ((F90 a0).bind fun (x38 : Except Unit ((List UInt8) × AA)) => orP x38 (fun (ex38 : Unit) => some (.error ex38)) (fun (y39 : (List UInt8) × AA) => some ((.ok ((y39.1, y39.2, C4 (C4 a1 ([99, 111, 110, 116, 101, 110, 116, 45, 108, 101, 110, 103, 116, 104])) ([116, 114, 97, 110, 115, 102, 101, 114, 45, 101, 110, 99, 111, 100, 105, 110, 103]))))))) else (some (.error ()))) else (if ¬ ((BM a1 ([99, 111, 110, 116, 101, 110, 116, 45, 108, 101, 110, 103, 116, 104])).isSome = true) then (some ((.ok (([], a0, C4 (C4 a1 ([99, 111, 110, 116, 101, 110, 116, 45, 108, 101, 110, 103, 116, 104])) ([116, 114, 97, 110, 115, 102, 101, 114, 45, 101, 110, 99, 111, 100, 105, 110, 103])))))) else ((F33 ((BM a1 ([99, 111, 110, 116, 101, 110, 116, 45, 108, 101, 110, 103, 116, 104])).getD [])).bind fun (x45 : Int × Bool) => if ¬ x45.2 = true then (if 0 ≤ x45.1 then ((F29 x45.1).bind fun (x47 : (List UInt8)) => if x47 = ((BM a1 ([99, 111, 110, 116, 101, 110, 116, 45, 108, 101, 110, 103, 116, 104])).getD []) then ((F91 a0 x45.1).bind fun (x50 : Except Unit ((List UInt8) × AA)) => orP x50 (fun (ex50 : Unit) => some (.error ex50)) (fun (y51 : (List UInt8) × AA) => some ((.ok ((y51.1, y51.2, C4 (C4 a1 ([99, 111, 110, 116, 101, 110, 116, 45, 108, 101, 110, 103, 116, 104])) ([116, 114, 97, 110, 115, 102, 101, 114, 45, 101, 110, 99, 111, 100, 105, 110, 103]))))))) else (some (.error ()))) else (some (.error ()))) else (some (.error ()))))) else (some (.error ())))
set_option maxHeartbeats 8000000 in
set_option pp.deepTerms false in
set_option maxRecDepth 60000 in
theorem P6 {H : A0} {K : Am → A0 → Prop} (a0 : AA) (a1 : List (List UInt8 × (List UInt8))) (ka0 : Nat) (ka1 : Nat) (Ac : H.obj ka0 = some (.cells ([.sl 1 (a0.Bb.fb.map fun x => [.v (.int .u8 x.toNat)])]))) (Ak : H.obj ka1 = some (.map (mE (fun (x : List UInt8) => .v (str x)) a1))) (hV : VOK prog H) {r : Except Unit ((List UInt8) × AA × (List (List UInt8 × (List UInt8))))} (h : F66 a0 a1 = some r) (hP : ∀ e, r = .error e → K (.pan (C8 e)) ((H.del ka0).del ka1)) (hK : ∀ v : (List UInt8) × AA × (List (List UInt8 × (List UInt8))), r = .ok v → K (.ret (.sl 1 (v.1.map fun x => [.v (.int .u8 x.toNat)]))) (Dh H [(ka0, .cells ([.sl 1 (v.2.1.Bb.fb.map fun x => [.v (.int .u8 x.toNat)])])), (ka1, .map (mE (fun (x : List UInt8) => .v (str x)) v.2.2))])) : A3 prog 66 [.p ka0 0, .mp ka1] H K := by
 refine A9 (N := 60) func66 (by kernel_rfl) rfl (by kernel_rfl) (by kernel_rfl) fun cb hcb hw hbd hnb => ?_; clear hbd hnb; subst hcb; unfold F66 at h; have NC : ka0 < H.next := Nat.lt_of_not_le fun q => by rw [hw _ q] at Ac; cases Ac
 have XU : ka1 < H.next := Nat.lt_of_not_le fun q => by rw [hw _ q] at Ak; cases Ak
 have Ad : ¬ ka0 = ka1 := fun q => by rw [q] at Ac; rw [Ac] at Ak; cases Ak
 have Ae : ¬ ka1 = ka0 := fun q => Ad q.symm; refine A1 fun cb hc1 => ?_; refine vcK ?_
 try simp -implicitDefEqProofs (disch := omega) [go_sem, Ac, Ak, Ad, Ae]
 subst hc1; refine A1 fun cb hc2 => ?_; refine vcK ?_; have hmL103 := @Oq _ (fun (x : List UInt8) => .v (str x))
 try dsimp only at hmL103
 have hmT103 := fun o => Rv (fun (x : List UInt8) => .v (str x)) ([] : List UInt8) (z := .v (str ([] : List UInt8))) (o := o) (by first | rfl | simp [go_sem])
 try dsimp only at hmT103
 try simp -implicitDefEqProofs (disch := omega) [go_sem, Ac, Ak, Ad, Ae, hmL103, hmT103]
 subst hc2; refine A1 fun cb hc3 => ?_; refine vcK ?_
 try simp -implicitDefEqProofs (disch := omega) [go_sem, Ac, Ak, Ad, Ae, hmL103, hmT103]
 subst hc3; refine A1 fun cb hc4 => ?_; refine vcK ?_; have hmD103 := @Qh _ (fun (x : List UInt8) => .v (str x))
 try dsimp only at hmD103
 try simp -implicitDefEqProofs (disch := omega) [go_sem, Ac, Ak, Ad, Ae, hmL103, hmT103, hmD103]
 subst hc4; refine A1 fun cb hc5 => ?_; refine vcK ?_
 try simp -implicitDefEqProofs (disch := omega) [go_sem, Ac, Ak, Ad, Ae, hmL103, hmT103, hmD103]
 subst hc5; refine A1 fun cb hc6 => ?_; refine vcK ?_
 try simp -implicitDefEqProofs (disch := omega) [go_sem, Ac, Ak, Ad, Ae, hmL103, hmT103, hmD103]
 refine A6 h (by first | with_reducible rfl | (simp -implicitDefEqProofs (disch := omega) [go_sem, Ac, Ak, Ad, Ae, hmL103, hmT103, hmD103] <;> omega)) ?_ ?_
 ·intro c54 h
  try simp (disch := omega) at c54
  try simp -implicitDefEqProofs (disch := omega) [go_sem, Ac, Ak, Ad, Ae, hmL103, hmT103, hmD103]
  refine A3.eqA (args' := [.v (.bool true)]) (by first | with_reducible rfl | (simp -implicitDefEqProofs (disch := omega) [go_sem, Ac, Ak, Ad, Ae, hmL103, hmT103, hmD103] <;> omega)) (Cv  rfl ?_)
  try simp -implicitDefEqProofs (disch := omega) [go_sem, Ac, Ak, Ad, Ae, hmL103, hmT103, hmD103]
  subst hc6; refine A1 fun cb hc7 => ?_; refine A1 fun cb hc8 => ?_; refine vcK ?_
  try simp -implicitDefEqProofs (disch := omega) [go_sem, Ac, Ak, Ad, Ae, hmL103, hmT103, hmD103]
  subst hc8; refine Aa h (by first | with_reducible rfl | (simp -implicitDefEqProofs (disch := omega) [go_sem, Ac, Ak, Ad, Ae, hmL103, hmT103, hmD103] <;> omega)) rfl ?_ ?_
  ·intro c9 h
   try simp (disch := omega) at c9
   refine A1 fun cb hc10 => ?_; refine vcK ?_
   try simp -implicitDefEqProofs (disch := omega) [go_sem, Ac, Ak, Ad, Ae, hmL103, hmT103, hmD103]
   obtain ⟨x11, hx11, h⟩ := A4 h; refine A3.eqA (args' := [.v (str ((BM a1 ([116, 114, 97, 110, 115, 102, 101, 114, 45, 101, 110, 99, 111, 100, 105, 110, 103])).getD []))]) (by first | with_reducible rfl | (simp -implicitDefEqProofs (disch := omega) [go_sem, Ac, Ak, Ad, Ae, hmL103, hmT103, hmD103] <;> omega)) (Fw ((BM a1 ([116, 114, 97, 110, 115, 102, 101, 114, 45, 101, 110, 99, 111, 100, 105, 110, 103])).getD []) hx11 ?_)
   try simp -implicitDefEqProofs (disch := omega) [go_sem, Ac, Ak, Ad, Ae, hmL103, hmT103, hmD103]
   refine A3.eqA (args' := [.v (.bool (decide (x11 = ([99, 104, 117, 110, 107, 101, 100]))))]) (by first | with_reducible rfl | (simp -implicitDefEqProofs (disch := omega) [go_sem, Ac, Ak, Ad, Ae, hmL103, hmT103, hmD103] <;> omega)) ?_; by_cases m12 : ¬ (x11 = ([99, 104, 117, 110, 107, 101, 100]))
   ·rw [if_neg m12] at h; refine Bf  (by first | simpa using m12 | exact Bool.eq_false_iff.2 (fun q => m12 (by simpa using q))) ?_
    try simp (disch := omega) at m12
    have er := Option.some.inj h; subst er
    try simp -implicitDefEqProofs (disch := omega) [go_sem, Ac, Ak, Ad, Ae, hmL103, hmT103, hmD103]
    exact Bu (by exact Bm (Ext.Ao (Ext.Ao (Ext.refl hw) ka0) ka1)) (((Dl.refl _).del ka0).del ka1) (hP _ rfl)
   have m12 := Classical.not_not.1 m12; rw [if_pos m12] at h; refine Cv  (by simpa using m12) ?_
   try simp (disch := omega) at m12
   try simp -implicitDefEqProofs (disch := omega) [go_sem, Ac, Ak, Ad, Ae, hmL103, hmT103, hmD103]
   subst hc10; refine A1 fun cb hc13 => ?_; refine vcK ?_
   try simp -implicitDefEqProofs (disch := omega) [go_sem, Ac, Ak, Ad, Ae, hmL103, hmT103, hmD103]
   obtain ⟨x14, hx14, h⟩ := A4 h; refine A3.eqA (args' := [.p ka0 0]) (by first | with_reducible rfl | (simp -implicitDefEqProofs (disch := omega) [go_sem, Ac, Ak, Ad, Ae, hmL103, hmT103, hmD103] <;> omega)) (P5 a0 ka0 (by first | with_reducible assumption | simp -implicitDefEqProofs (disch := omega) [go_sem, Ac, Ak, Ad, Ae, hmL103, hmT103, hmD103]) (by first | exact hV.of rfl | exact hV.of ((Ext.Ao (Ext.Ao (Ext.refl hw) ka0) ka1)).sn | exact hV.of (Ext.sn (H := H) (by exact A8 (Ext.Ao (Ext.Ao (Ext.refl hw) ka0) ka1))) | exact (VOK.of hV rfl).tok | exact (VOK.of hV ((Ext.Ao (Ext.Ao (Ext.refl hw) ka0) ka1)).sn).tok | exact (VOK.of hV (Ext.sn (H := H) (by exact A8 (Ext.Ao (Ext.Ao (Ext.refl hw) ka0) ka1)))).tok) hx14 ?_ ?_)
   ·intro ex14 qx14; subst qx14; replace h := AP h; have er := Option.some.inj h; subst er
    try simp -implicitDefEqProofs (disch := omega) [go_sem, Ac, Ak, Ad, Ae, hmL103, hmT103, hmD103]
    exact Bu (by exact Bm (Ext.Ao (Ext.Ao (Ext.refl hw) ka0) ka1)) (((Dl.refl _).del ka0).del ka1) (hP _ rfl)
   intro y15 qx14; subst qx14; replace h := B6 h
   try simp -implicitDefEqProofs (disch := omega) [go_sem, Ac, Ak, Ad, Ae, hmL103, hmT103, hmD103]
   subst hc13; refine vcK ?_; simp -implicitDefEqProofs only [go_sem]; have er := Option.some.inj h; subst er
   try simp -implicitDefEqProofs (disch := omega) [go_sem, Ac, Ak, Ad, Ae, hmL103, hmT103, hmD103]
   refine AL (r' := .sl 1 (y15.1.map fun x => [.v (.int .u8 x.toNat)])) (Cm.ioL [(ka0, .cells ([.sl 1 (y15.2.Bb.fb.map fun x => [.v (.int .u8 x.toNat)])])), (ka1, .map (mE (fun (x : List UInt8) => .v (str x)) (C4 (C4 a1 ([99, 111, 110, 116, 101, 110, 116, 45, 108, 101, 110, 103, 116, 104])) ([116, 114, 97, 110, 115, 102, 101, 114, 45, 101, 110, 99, 111, 100, 105, 110, 103]))))] (by simp only [C6, Cr]; exact A8 (Ext.Ao (Ext.Ao (Ext.refl hw) ka0) ka1)) (by intro p hp; simp only [List.mem_cons, List.not_mem_nil, or_false] at hp; (try rcases hp with hp | hp); all_goals (subst hp; refine ⟨by omega, by first | with_reducible assumption | rfl | simp -implicitDefEqProofs (disch := omega) [go_sem, Ac, Ak, Ad, Ae, hmL103, hmT103, hmD103], by first | exact nbA | exact BP | exact BB⟩))) (by first | with_reducible rfl | (simp -implicitDefEqProofs (disch := omega) [go_sem, Ac, Ak, Ad, Ae, hmL103, hmT103, hmD103] <;> omega)) (.same (by first | exact nbA | exact BP | exact BB)) (hK _ rfl)
  ·intro c9 h
   try simp (disch := omega) at c9
   refine vcK ?_; simp -implicitDefEqProofs only [go_sem]; subst hc7; refine A1 fun cb hc16 => ?_; refine A1 fun cb hc17 => ?_; refine vcK ?_
   try simp -implicitDefEqProofs (disch := omega) [go_sem, Ac, Ak, Ad, Ae, hmL103, hmT103, hmD103]
   subst hc17; refine Aa h (by first | with_reducible rfl | (simp -implicitDefEqProofs (disch := omega) [go_sem, Ac, Ak, Ad, Ae, hmL103, hmT103, hmD103] <;> omega)) rfl ?_ ?_
   ·intro c18 h
    try simp (disch := omega) at c18
    refine A1 fun cb hc19 => ?_; refine vcK ?_
    try simp -implicitDefEqProofs (disch := omega) [go_sem, Ac, Ak, Ad, Ae, hmL103, hmT103, hmD103]
    subst hc19; refine IWp.gh (Gh.KS 4 1 (by (simp -implicitDefEqProofs (disch := omega) [go_sem, Ac, Ak, Ad, Ae, hmL103, hmT103, hmD103] <;> omega))) ?_; refine vcK ?_; simp -implicitDefEqProofs only [go_sem]; have er := Option.some.inj h; subst er
    try simp -implicitDefEqProofs (disch := omega) [go_sem, Ac, Ak, Ad, Ae, hmL103, hmT103, hmD103]
    refine AL (r' := .sl 1 (([] : List UInt8).map fun x => [.v (.int .u8 x.toNat)])) (Cm.ioL [(ka0, .cells ([.sl 1 (a0.Bb.fb.map fun x => [.v (.int .u8 x.toNat)])])), (ka1, .map (mE (fun (x : List UInt8) => .v (str x)) (C4 (C4 a1 ([99, 111, 110, 116, 101, 110, 116, 45, 108, 101, 110, 103, 116, 104])) ([116, 114, 97, 110, 115, 102, 101, 114, 45, 101, 110, 99, 111, 100, 105, 110, 103]))))] (by simp only [C6, Cr]; exact A8 (Ext.Ao (Ext.Ao (Ext.refl hw) ka0) ka1)) (by intro p hp; simp only [List.mem_cons, List.not_mem_nil, or_false] at hp; (try rcases hp with hp | hp); all_goals (subst hp; refine ⟨by omega, by first | with_reducible assumption | rfl | simp -implicitDefEqProofs (disch := omega) [go_sem, Ac, Ak, Ad, Ae, hmL103, hmT103, hmD103], by first | exact nbA | exact BP | exact BB⟩))) (by first | with_reducible rfl | (simp -implicitDefEqProofs (disch := omega) [go_sem, Ac, Ak, Ad, Ae, hmL103, hmT103, hmD103] <;> omega)) (.same (by first | exact nbA | exact BP | exact BB)) (hK _ rfl)
   ·intro c18 h
    try simp (disch := omega) at c18
    refine vcK ?_; simp -implicitDefEqProofs only [go_sem]; subst hc16; refine A1 fun cb hc20 => ?_; refine vcK ?_
    try simp -implicitDefEqProofs (disch := omega) [go_sem, Ac, Ak, Ad, Ae, hmL103, hmT103, hmD103]
    obtain ⟨x21, hx21, h⟩ := A4 h; refine A3.eqA (args' := [.v (str ((BM a1 ([99, 111, 110, 116, 101, 110, 116, 45, 108, 101, 110, 103, 116, 104])).getD []))]) (by first | with_reducible rfl | (simp -implicitDefEqProofs (disch := omega) [go_sem, Ac, Ak, Ad, Ae, hmL103, hmT103, hmD103] <;> omega)) (Me ((BM a1 ([99, 111, 110, 116, 101, 110, 116, 45, 108, 101, 110, 103, 116, 104])).getD []) (by first | exact hV.of rfl | exact hV.of ((Ext.Ao (Ext.Ao (Ext.refl hw) ka0) ka1)).sn | exact hV.of (Ext.sn (H := H) (by exact A8 (Ext.Ao (Ext.Ao (Ext.refl hw) ka0) ka1))) | exact (VOK.of hV rfl).tok | exact (VOK.of hV ((Ext.Ao (Ext.Ao (Ext.refl hw) ka0) ka1)).sn).tok | exact (VOK.of hV (Ext.sn (H := H) (by exact A8 (Ext.Ao (Ext.Ao (Ext.refl hw) ka0) ka1)))).tok) hx21 ?_)
    try simp -implicitDefEqProofs (disch := omega) [go_sem, Ac, Ak, Ad, Ae, hmL103, hmT103, hmD103]
    subst hc20; refine A1 fun cb hc22 => ?_; refine vcK ?_
    try simp -implicitDefEqProofs (disch := omega) [go_sem, Ac, Ak, Ad, Ae, hmL103, hmT103, hmD103]
    refine A6 h (by first | with_reducible rfl | (simp -implicitDefEqProofs (disch := omega) [go_sem, Ac, Ak, Ad, Ae, hmL103, hmT103, hmD103] <;> omega)) ?_ ?_
    ·intro c29 h
     try simp (disch := omega) at c29
     try simp -implicitDefEqProofs (disch := omega) [go_sem, Ac, Ak, Ad, Ae, hmL103, hmT103, hmD103]
     refine A6 h (by first | with_reducible rfl | (simp -implicitDefEqProofs (disch := omega) [go_sem, Ac, Ak, Ad, Ae, hmL103, hmT103, hmD103] <;> omega)) ?_ ?_
     ·intro c28 h
      try simp (disch := omega) at c28
      try simp -implicitDefEqProofs (disch := omega) [go_sem, Ac, Ak, Ad, Ae, hmL103, hmT103, hmD103]
      obtain ⟨x23, hx23, h⟩ := A4 h; refine A3.eqA (args' := [.v (.int .i64 x21.1)]) (by first | with_reducible rfl | (simp -implicitDefEqProofs (disch := omega) [go_sem, Ac, Ak, Ad, Ae, hmL103, hmT103, hmD103] <;> omega)) (K8 x21.1 (by first | exact hV.of rfl | exact hV.of ((Ext.Ao (Ext.Ao (Ext.refl hw) ka0) ka1)).sn | exact hV.of (Ext.sn (H := H) (by exact A8 (Ext.Ao (Ext.Ao (Ext.refl hw) ka0) ka1))) | exact (VOK.of hV rfl).tok | exact (VOK.of hV ((Ext.Ao (Ext.Ao (Ext.refl hw) ka0) ka1)).sn).tok | exact (VOK.of hV (Ext.sn (H := H) (by exact A8 (Ext.Ao (Ext.Ao (Ext.refl hw) ka0) ka1)))).tok) hx23 ?_)
      try simp -implicitDefEqProofs (disch := omega) [go_sem, Ac, Ak, Ad, Ae, hmL103, hmT103, hmD103]
      refine A3.eqA (args' := [.v (.bool (decide (x23 = ((BM a1 ([99, 111, 110, 116, 101, 110, 116, 45, 108, 101, 110, 103, 116, 104])).getD []))))]) (by first | with_reducible rfl | (simp -implicitDefEqProofs (disch := omega) [go_sem, Ac, Ak, Ad, Ae, hmL103, hmT103, hmD103] <;> omega)) ?_; by_cases m24 : ¬ (x23 = ((BM a1 ([99, 111, 110, 116, 101, 110, 116, 45, 108, 101, 110, 103, 116, 104])).getD []))
      ·rw [if_neg m24] at h; refine Bf  (by first | simpa using m24 | exact Bool.eq_false_iff.2 (fun q => m24 (by simpa using q))) ?_
       try simp (disch := omega) at m24
       have er := Option.some.inj h; subst er
       try simp -implicitDefEqProofs (disch := omega) [go_sem, Ac, Ak, Ad, Ae, hmL103, hmT103, hmD103]
       exact Bu (by exact Bm (Ext.Ao (Ext.Ao (Ext.refl hw) ka0) ka1)) (((Dl.refl _).del ka0).del ka1) (hP _ rfl)
      have m24 := Classical.not_not.1 m24; rw [if_pos m24] at h; refine Cv  (by simpa using m24) ?_
      try simp (disch := omega) at m24
      try simp -implicitDefEqProofs (disch := omega) [go_sem, Ac, Ak, Ad, Ae, hmL103, hmT103, hmD103]
      subst hc22; refine A1 fun cb hc25 => ?_; refine vcK ?_
      try simp -implicitDefEqProofs (disch := omega) [go_sem, Ac, Ak, Ad, Ae, hmL103, hmT103, hmD103]
      obtain ⟨x26, hx26, h⟩ := A4 h; refine A3.eqA (args' := [.p ka0 0, .v (.int .i64 x21.1)]) (by first | with_reducible rfl | (simp -implicitDefEqProofs (disch := omega) [go_sem, Ac, Ak, Ad, Ae, hmL103, hmT103, hmD103] <;> omega)) (Mn a0 x21.1 ka0 (by first | with_reducible assumption | simp -implicitDefEqProofs (disch := omega) [go_sem, Ac, Ak, Ad, Ae, hmL103, hmT103, hmD103]) hx26 ?_ ?_)
      ·intro ex26 qx26; subst qx26; replace h := AP h; have er := Option.some.inj h; subst er
       try simp -implicitDefEqProofs (disch := omega) [go_sem, Ac, Ak, Ad, Ae, hmL103, hmT103, hmD103]
       exact Bu (by exact Bm (Ext.Ao (Ext.Ao (Ext.refl hw) ka0) ka1)) (((Dl.refl _).del ka0).del ka1) (hP _ rfl)
      intro y27 qx26; subst qx26; replace h := B6 h
      try simp -implicitDefEqProofs (disch := omega) [go_sem, Ac, Ak, Ad, Ae, hmL103, hmT103, hmD103]
      subst hc25; refine vcK ?_; simp -implicitDefEqProofs only [go_sem]; have er := Option.some.inj h; subst er
      try simp -implicitDefEqProofs (disch := omega) [go_sem, Ac, Ak, Ad, Ae, hmL103, hmT103, hmD103]
      refine AL (r' := .sl 1 (y27.1.map fun x => [.v (.int .u8 x.toNat)])) (Cm.ioL [(ka0, .cells ([.sl 1 (y27.2.Bb.fb.map fun x => [.v (.int .u8 x.toNat)])])), (ka1, .map (mE (fun (x : List UInt8) => .v (str x)) (C4 (C4 a1 ([99, 111, 110, 116, 101, 110, 116, 45, 108, 101, 110, 103, 116, 104])) ([116, 114, 97, 110, 115, 102, 101, 114, 45, 101, 110, 99, 111, 100, 105, 110, 103]))))] (by simp only [C6, Cr]; exact A8 (Ext.Ao (Ext.Ao (Ext.refl hw) ka0) ka1)) (by intro p hp; simp only [List.mem_cons, List.not_mem_nil, or_false] at hp; (try rcases hp with hp | hp); all_goals (subst hp; refine ⟨by omega, by first | with_reducible assumption | rfl | simp -implicitDefEqProofs (disch := omega) [go_sem, Ac, Ak, Ad, Ae, hmL103, hmT103, hmD103], by first | exact nbA | exact BP | exact BB⟩))) (by first | with_reducible rfl | (simp -implicitDefEqProofs (disch := omega) [go_sem, Ac, Ak, Ad, Ae, hmL103, hmT103, hmD103] <;> omega)) (.same (by first | exact nbA | exact BP | exact BB)) (hK _ rfl)
     ·intro c28 h
      try simp (disch := omega) at c28
      try simp -implicitDefEqProofs (disch := omega) [go_sem, Ac, Ak, Ad, Ae, hmL103, hmT103, hmD103]
      refine A3.eqA (args' := [.v (.bool false)]) (by first | with_reducible rfl | (simp -implicitDefEqProofs (disch := omega) [go_sem, Ac, Ak, Ad, Ae, hmL103, hmT103, hmD103] <;> omega)) (Bf  rfl ?_); have er := Option.some.inj h; subst er
      try simp -implicitDefEqProofs (disch := omega) [go_sem, Ac, Ak, Ad, Ae, hmL103, hmT103, hmD103]
      exact Bu (by exact Bm (Ext.Ao (Ext.Ao (Ext.refl hw) ka0) ka1)) (((Dl.refl _).del ka0).del ka1) (hP _ rfl)
    ·intro c29 h
     try simp (disch := omega) at c29
     try simp -implicitDefEqProofs (disch := omega) [go_sem, Ac, Ak, Ad, Ae, hmL103, hmT103, hmD103]
     refine A3.eqA (args' := [.v (.bool false)]) (by first | with_reducible rfl | (simp -implicitDefEqProofs (disch := omega) [go_sem, Ac, Ak, Ad, Ae, hmL103, hmT103, hmD103] <;> omega)) (Bf  rfl ?_); have er := Option.some.inj h; subst er
     try simp -implicitDefEqProofs (disch := omega) [go_sem, Ac, Ak, Ad, Ae, hmL103, hmT103, hmD103]
     exact Bu (by exact Bm (Ext.Ao (Ext.Ao (Ext.refl hw) ka0) ka1)) (((Dl.refl _).del ka0).del ka1) (hP _ rfl)
 ·intro c54 h
  try simp (disch := omega) at c54
  try simp -implicitDefEqProofs (disch := omega) [go_sem, Ac, Ak, Ad, Ae, hmL103, hmT103, hmD103]
  refine A3.eqA (args' := [.v (.bool (!((BM a1 ([116, 114, 97, 110, 115, 102, 101, 114, 45, 101, 110, 99, 111, 100, 105, 110, 103])).isSome)))]) (by first | with_reducible rfl | (simp -implicitDefEqProofs (disch := omega) [go_sem, Ac, Ak, Ad, Ae, hmL103, hmT103, hmD103] <;> omega)) ?_; by_cases m30 : ¬ (¬ ((BM a1 ([116, 114, 97, 110, 115, 102, 101, 114, 45, 101, 110, 99, 111, 100, 105, 110, 103])).isSome = true))
  ·rw [if_neg m30] at h; refine Bf  (by first | simpa using m30 | exact Bool.eq_false_iff.2 (fun q => m30 (by simpa using q))) ?_
   try simp (disch := omega) at m30
   have er := Option.some.inj h; subst er
   try simp -implicitDefEqProofs (disch := omega) [go_sem, Ac, Ak, Ad, Ae, hmL103, hmT103, hmD103]
   exact Bu (by exact Bm (Ext.Ao (Ext.Ao (Ext.refl hw) ka0) ka1)) (((Dl.refl _).del ka0).del ka1) (hP _ rfl)
  have m30 := Classical.not_not.1 m30; rw [if_pos m30] at h; refine Cv  (by simpa using m30) ?_
  try simp (disch := omega) at m30
  try simp -implicitDefEqProofs (disch := omega) [go_sem, Ac, Ak, Ad, Ae, hmL103, hmT103, hmD103]
  subst hc6; refine A1 fun cb hc31 => ?_; refine A1 fun cb hc32 => ?_; refine vcK ?_
  try simp -implicitDefEqProofs (disch := omega) [go_sem, Ac, Ak, Ad, Ae, hmL103, hmT103, hmD103]
  subst hc32; refine Aa h (by first | with_reducible rfl | (simp -implicitDefEqProofs (disch := omega) [go_sem, Ac, Ak, Ad, Ae, hmL103, hmT103, hmD103] <;> omega)) rfl ?_ ?_
  ·intro c33 h
   try simp (disch := omega) at c33
   refine A1 fun cb hc34 => ?_; refine vcK ?_
   try simp -implicitDefEqProofs (disch := omega) [go_sem, Ac, Ak, Ad, Ae, hmL103, hmT103, hmD103]
   obtain ⟨x35, hx35, h⟩ := A4 h; refine A3.eqA (args' := [.v (str ((BM a1 ([116, 114, 97, 110, 115, 102, 101, 114, 45, 101, 110, 99, 111, 100, 105, 110, 103])).getD []))]) (by first | with_reducible rfl | (simp -implicitDefEqProofs (disch := omega) [go_sem, Ac, Ak, Ad, Ae, hmL103, hmT103, hmD103] <;> omega)) (Fw ((BM a1 ([116, 114, 97, 110, 115, 102, 101, 114, 45, 101, 110, 99, 111, 100, 105, 110, 103])).getD []) hx35 ?_)
   try simp -implicitDefEqProofs (disch := omega) [go_sem, Ac, Ak, Ad, Ae, hmL103, hmT103, hmD103]
   refine A3.eqA (args' := [.v (.bool (decide (x35 = ([99, 104, 117, 110, 107, 101, 100]))))]) (by first | with_reducible rfl | (simp -implicitDefEqProofs (disch := omega) [go_sem, Ac, Ak, Ad, Ae, hmL103, hmT103, hmD103] <;> omega)) ?_; by_cases m36 : ¬ (x35 = ([99, 104, 117, 110, 107, 101, 100]))
   ·rw [if_neg m36] at h; refine Bf  (by first | simpa using m36 | exact Bool.eq_false_iff.2 (fun q => m36 (by simpa using q))) ?_
    try simp (disch := omega) at m36
    have er := Option.some.inj h; subst er
    try simp -implicitDefEqProofs (disch := omega) [go_sem, Ac, Ak, Ad, Ae, hmL103, hmT103, hmD103]
    exact Bu (by exact Bm (Ext.Ao (Ext.Ao (Ext.refl hw) ka0) ka1)) (((Dl.refl _).del ka0).del ka1) (hP _ rfl)
   have m36 := Classical.not_not.1 m36; rw [if_pos m36] at h; refine Cv  (by simpa using m36) ?_
   try simp (disch := omega) at m36
   try simp -implicitDefEqProofs (disch := omega) [go_sem, Ac, Ak, Ad, Ae, hmL103, hmT103, hmD103]
   subst hc34; refine A1 fun cb hc37 => ?_; refine vcK ?_
   try simp -implicitDefEqProofs (disch := omega) [go_sem, Ac, Ak, Ad, Ae, hmL103, hmT103, hmD103]
   obtain ⟨x38, hx38, h⟩ := A4 h; refine A3.eqA (args' := [.p ka0 0]) (by first | with_reducible rfl | (simp -implicitDefEqProofs (disch := omega) [go_sem, Ac, Ak, Ad, Ae, hmL103, hmT103, hmD103] <;> omega)) (P5 a0 ka0 (by first | with_reducible assumption | simp -implicitDefEqProofs (disch := omega) [go_sem, Ac, Ak, Ad, Ae, hmL103, hmT103, hmD103]) (by first | exact hV.of rfl | exact hV.of ((Ext.Ao (Ext.Ao (Ext.refl hw) ka0) ka1)).sn | exact hV.of (Ext.sn (H := H) (by exact A8 (Ext.Ao (Ext.Ao (Ext.refl hw) ka0) ka1))) | exact (VOK.of hV rfl).tok | exact (VOK.of hV ((Ext.Ao (Ext.Ao (Ext.refl hw) ka0) ka1)).sn).tok | exact (VOK.of hV (Ext.sn (H := H) (by exact A8 (Ext.Ao (Ext.Ao (Ext.refl hw) ka0) ka1)))).tok) hx38 ?_ ?_)
   ·intro ex38 qx38; subst qx38; replace h := AP h; have er := Option.some.inj h; subst er
    try simp -implicitDefEqProofs (disch := omega) [go_sem, Ac, Ak, Ad, Ae, hmL103, hmT103, hmD103]
    exact Bu (by exact Bm (Ext.Ao (Ext.Ao (Ext.refl hw) ka0) ka1)) (((Dl.refl _).del ka0).del ka1) (hP _ rfl)
   intro y39 qx38; subst qx38; replace h := B6 h
   try simp -implicitDefEqProofs (disch := omega) [go_sem, Ac, Ak, Ad, Ae, hmL103, hmT103, hmD103]
   subst hc37; refine vcK ?_; simp -implicitDefEqProofs only [go_sem]; have er := Option.some.inj h; subst er
   try simp -implicitDefEqProofs (disch := omega) [go_sem, Ac, Ak, Ad, Ae, hmL103, hmT103, hmD103]
   refine AL (r' := .sl 1 (y39.1.map fun x => [.v (.int .u8 x.toNat)])) (Cm.ioL [(ka0, .cells ([.sl 1 (y39.2.Bb.fb.map fun x => [.v (.int .u8 x.toNat)])])), (ka1, .map (mE (fun (x : List UInt8) => .v (str x)) (C4 (C4 a1 ([99, 111, 110, 116, 101, 110, 116, 45, 108, 101, 110, 103, 116, 104])) ([116, 114, 97, 110, 115, 102, 101, 114, 45, 101, 110, 99, 111, 100, 105, 110, 103]))))] (by simp only [C6, Cr]; exact A8 (Ext.Ao (Ext.Ao (Ext.refl hw) ka0) ka1)) (by intro p hp; simp only [List.mem_cons, List.not_mem_nil, or_false] at hp; (try rcases hp with hp | hp); all_goals (subst hp; refine ⟨by omega, by first | with_reducible assumption | rfl | simp -implicitDefEqProofs (disch := omega) [go_sem, Ac, Ak, Ad, Ae, hmL103, hmT103, hmD103], by first | exact nbA | exact BP | exact BB⟩))) (by first | with_reducible rfl | (simp -implicitDefEqProofs (disch := omega) [go_sem, Ac, Ak, Ad, Ae, hmL103, hmT103, hmD103] <;> omega)) (.same (by first | exact nbA | exact BP | exact BB)) (hK _ rfl)
  ·intro c33 h
   try simp (disch := omega) at c33
   refine vcK ?_; simp -implicitDefEqProofs only [go_sem]; subst hc31; refine A1 fun cb hc40 => ?_; refine A1 fun cb hc41 => ?_; refine vcK ?_
   try simp -implicitDefEqProofs (disch := omega) [go_sem, Ac, Ak, Ad, Ae, hmL103, hmT103, hmD103]
   subst hc41; refine Aa h (by first | with_reducible rfl | (simp -implicitDefEqProofs (disch := omega) [go_sem, Ac, Ak, Ad, Ae, hmL103, hmT103, hmD103] <;> omega)) rfl ?_ ?_
   ·intro c42 h
    try simp (disch := omega) at c42
    refine A1 fun cb hc43 => ?_; refine vcK ?_
    try simp -implicitDefEqProofs (disch := omega) [go_sem, Ac, Ak, Ad, Ae, hmL103, hmT103, hmD103]
    subst hc43; refine IWp.gh (Gh.KS 4 1 (by (simp -implicitDefEqProofs (disch := omega) [go_sem, Ac, Ak, Ad, Ae, hmL103, hmT103, hmD103] <;> omega))) ?_; refine vcK ?_; simp -implicitDefEqProofs only [go_sem]; have er := Option.some.inj h; subst er
    try simp -implicitDefEqProofs (disch := omega) [go_sem, Ac, Ak, Ad, Ae, hmL103, hmT103, hmD103]
    refine AL (r' := .sl 1 (([] : List UInt8).map fun x => [.v (.int .u8 x.toNat)])) (Cm.ioL [(ka0, .cells ([.sl 1 (a0.Bb.fb.map fun x => [.v (.int .u8 x.toNat)])])), (ka1, .map (mE (fun (x : List UInt8) => .v (str x)) (C4 (C4 a1 ([99, 111, 110, 116, 101, 110, 116, 45, 108, 101, 110, 103, 116, 104])) ([116, 114, 97, 110, 115, 102, 101, 114, 45, 101, 110, 99, 111, 100, 105, 110, 103]))))] (by simp only [C6, Cr]; exact A8 (Ext.Ao (Ext.Ao (Ext.refl hw) ka0) ka1)) (by intro p hp; simp only [List.mem_cons, List.not_mem_nil, or_false] at hp; (try rcases hp with hp | hp); all_goals (subst hp; refine ⟨by omega, by first | with_reducible assumption | rfl | simp -implicitDefEqProofs (disch := omega) [go_sem, Ac, Ak, Ad, Ae, hmL103, hmT103, hmD103], by first | exact nbA | exact BP | exact BB⟩))) (by first | with_reducible rfl | (simp -implicitDefEqProofs (disch := omega) [go_sem, Ac, Ak, Ad, Ae, hmL103, hmT103, hmD103] <;> omega)) (.same (by first | exact nbA | exact BP | exact BB)) (hK _ rfl)
   ·intro c42 h
    try simp (disch := omega) at c42
    refine vcK ?_; simp -implicitDefEqProofs only [go_sem]; subst hc40; refine A1 fun cb hc44 => ?_; refine vcK ?_
    try simp -implicitDefEqProofs (disch := omega) [go_sem, Ac, Ak, Ad, Ae, hmL103, hmT103, hmD103]
    obtain ⟨x45, hx45, h⟩ := A4 h; refine A3.eqA (args' := [.v (str ((BM a1 ([99, 111, 110, 116, 101, 110, 116, 45, 108, 101, 110, 103, 116, 104])).getD []))]) (by first | with_reducible rfl | (simp -implicitDefEqProofs (disch := omega) [go_sem, Ac, Ak, Ad, Ae, hmL103, hmT103, hmD103] <;> omega)) (Me ((BM a1 ([99, 111, 110, 116, 101, 110, 116, 45, 108, 101, 110, 103, 116, 104])).getD []) (by first | exact hV.of rfl | exact hV.of ((Ext.Ao (Ext.Ao (Ext.refl hw) ka0) ka1)).sn | exact hV.of (Ext.sn (H := H) (by exact A8 (Ext.Ao (Ext.Ao (Ext.refl hw) ka0) ka1))) | exact (VOK.of hV rfl).tok | exact (VOK.of hV ((Ext.Ao (Ext.Ao (Ext.refl hw) ka0) ka1)).sn).tok | exact (VOK.of hV (Ext.sn (H := H) (by exact A8 (Ext.Ao (Ext.Ao (Ext.refl hw) ka0) ka1)))).tok) hx45 ?_)
    try simp -implicitDefEqProofs (disch := omega) [go_sem, Ac, Ak, Ad, Ae, hmL103, hmT103, hmD103]
    subst hc44; refine A1 fun cb hc46 => ?_; refine vcK ?_
    try simp -implicitDefEqProofs (disch := omega) [go_sem, Ac, Ak, Ad, Ae, hmL103, hmT103, hmD103]
    refine A6 h (by first | with_reducible rfl | (simp -implicitDefEqProofs (disch := omega) [go_sem, Ac, Ak, Ad, Ae, hmL103, hmT103, hmD103] <;> omega)) ?_ ?_
    ·intro c53 h
     try simp (disch := omega) at c53
     try simp -implicitDefEqProofs (disch := omega) [go_sem, Ac, Ak, Ad, Ae, hmL103, hmT103, hmD103]
     refine A6 h (by first | with_reducible rfl | (simp -implicitDefEqProofs (disch := omega) [go_sem, Ac, Ak, Ad, Ae, hmL103, hmT103, hmD103] <;> omega)) ?_ ?_
     ·intro c52 h
      try simp (disch := omega) at c52
      try simp -implicitDefEqProofs (disch := omega) [go_sem, Ac, Ak, Ad, Ae, hmL103, hmT103, hmD103]
      obtain ⟨x47, hx47, h⟩ := A4 h; refine A3.eqA (args' := [.v (.int .i64 x45.1)]) (by first | with_reducible rfl | (simp -implicitDefEqProofs (disch := omega) [go_sem, Ac, Ak, Ad, Ae, hmL103, hmT103, hmD103] <;> omega)) (K8 x45.1 (by first | exact hV.of rfl | exact hV.of ((Ext.Ao (Ext.Ao (Ext.refl hw) ka0) ka1)).sn | exact hV.of (Ext.sn (H := H) (by exact A8 (Ext.Ao (Ext.Ao (Ext.refl hw) ka0) ka1))) | exact (VOK.of hV rfl).tok | exact (VOK.of hV ((Ext.Ao (Ext.Ao (Ext.refl hw) ka0) ka1)).sn).tok | exact (VOK.of hV (Ext.sn (H := H) (by exact A8 (Ext.Ao (Ext.Ao (Ext.refl hw) ka0) ka1)))).tok) hx47 ?_)
      try simp -implicitDefEqProofs (disch := omega) [go_sem, Ac, Ak, Ad, Ae, hmL103, hmT103, hmD103]
      refine A3.eqA (args' := [.v (.bool (decide (x47 = ((BM a1 ([99, 111, 110, 116, 101, 110, 116, 45, 108, 101, 110, 103, 116, 104])).getD []))))]) (by first | with_reducible rfl | (simp -implicitDefEqProofs (disch := omega) [go_sem, Ac, Ak, Ad, Ae, hmL103, hmT103, hmD103] <;> omega)) ?_; by_cases m48 : ¬ (x47 = ((BM a1 ([99, 111, 110, 116, 101, 110, 116, 45, 108, 101, 110, 103, 116, 104])).getD []))
      ·rw [if_neg m48] at h; refine Bf  (by first | simpa using m48 | exact Bool.eq_false_iff.2 (fun q => m48 (by simpa using q))) ?_
       try simp (disch := omega) at m48
       have er := Option.some.inj h; subst er
       try simp -implicitDefEqProofs (disch := omega) [go_sem, Ac, Ak, Ad, Ae, hmL103, hmT103, hmD103]
       exact Bu (by exact Bm (Ext.Ao (Ext.Ao (Ext.refl hw) ka0) ka1)) (((Dl.refl _).del ka0).del ka1) (hP _ rfl)
      have m48 := Classical.not_not.1 m48; rw [if_pos m48] at h; refine Cv  (by simpa using m48) ?_
      try simp (disch := omega) at m48
      try simp -implicitDefEqProofs (disch := omega) [go_sem, Ac, Ak, Ad, Ae, hmL103, hmT103, hmD103]
      subst hc46; refine A1 fun cb hc49 => ?_; refine vcK ?_
      try simp -implicitDefEqProofs (disch := omega) [go_sem, Ac, Ak, Ad, Ae, hmL103, hmT103, hmD103]
      obtain ⟨x50, hx50, h⟩ := A4 h; refine A3.eqA (args' := [.p ka0 0, .v (.int .i64 x45.1)]) (by first | with_reducible rfl | (simp -implicitDefEqProofs (disch := omega) [go_sem, Ac, Ak, Ad, Ae, hmL103, hmT103, hmD103] <;> omega)) (Mn a0 x45.1 ka0 (by first | with_reducible assumption | simp -implicitDefEqProofs (disch := omega) [go_sem, Ac, Ak, Ad, Ae, hmL103, hmT103, hmD103]) hx50 ?_ ?_)
      ·intro ex50 qx50; subst qx50; replace h := AP h; have er := Option.some.inj h; subst er
       try simp -implicitDefEqProofs (disch := omega) [go_sem, Ac, Ak, Ad, Ae, hmL103, hmT103, hmD103]
       exact Bu (by exact Bm (Ext.Ao (Ext.Ao (Ext.refl hw) ka0) ka1)) (((Dl.refl _).del ka0).del ka1) (hP _ rfl)
      intro y51 qx50; subst qx50; replace h := B6 h
      try simp -implicitDefEqProofs (disch := omega) [go_sem, Ac, Ak, Ad, Ae, hmL103, hmT103, hmD103]
      subst hc49; refine vcK ?_; simp -implicitDefEqProofs only [go_sem]; have er := Option.some.inj h; subst er
      try simp -implicitDefEqProofs (disch := omega) [go_sem, Ac, Ak, Ad, Ae, hmL103, hmT103, hmD103]
      refine AL (r' := .sl 1 (y51.1.map fun x => [.v (.int .u8 x.toNat)])) (Cm.ioL [(ka0, .cells ([.sl 1 (y51.2.Bb.fb.map fun x => [.v (.int .u8 x.toNat)])])), (ka1, .map (mE (fun (x : List UInt8) => .v (str x)) (C4 (C4 a1 ([99, 111, 110, 116, 101, 110, 116, 45, 108, 101, 110, 103, 116, 104])) ([116, 114, 97, 110, 115, 102, 101, 114, 45, 101, 110, 99, 111, 100, 105, 110, 103]))))] (by simp only [C6, Cr]; exact A8 (Ext.Ao (Ext.Ao (Ext.refl hw) ka0) ka1)) (by intro p hp; simp only [List.mem_cons, List.not_mem_nil, or_false] at hp; (try rcases hp with hp | hp); all_goals (subst hp; refine ⟨by omega, by first | with_reducible assumption | rfl | simp -implicitDefEqProofs (disch := omega) [go_sem, Ac, Ak, Ad, Ae, hmL103, hmT103, hmD103], by first | exact nbA | exact BP | exact BB⟩))) (by first | with_reducible rfl | (simp -implicitDefEqProofs (disch := omega) [go_sem, Ac, Ak, Ad, Ae, hmL103, hmT103, hmD103] <;> omega)) (.same (by first | exact nbA | exact BP | exact BB)) (hK _ rfl)
     ·intro c52 h
      try simp (disch := omega) at c52
      try simp -implicitDefEqProofs (disch := omega) [go_sem, Ac, Ak, Ad, Ae, hmL103, hmT103, hmD103]
      refine A3.eqA (args' := [.v (.bool false)]) (by first | with_reducible rfl | (simp -implicitDefEqProofs (disch := omega) [go_sem, Ac, Ak, Ad, Ae, hmL103, hmT103, hmD103] <;> omega)) (Bf  rfl ?_); have er := Option.some.inj h; subst er
      try simp -implicitDefEqProofs (disch := omega) [go_sem, Ac, Ak, Ad, Ae, hmL103, hmT103, hmD103]
      exact Bu (by exact Bm (Ext.Ao (Ext.Ao (Ext.refl hw) ka0) ka1)) (((Dl.refl _).del ka0).del ka1) (hP _ rfl)
    ·intro c53 h
     try simp (disch := omega) at c53
     try simp -implicitDefEqProofs (disch := omega) [go_sem, Ac, Ak, Ad, Ae, hmL103, hmT103, hmD103]
     refine A3.eqA (args' := [.v (.bool false)]) (by first | with_reducible rfl | (simp -implicitDefEqProofs (disch := omega) [go_sem, Ac, Ak, Ad, Ae, hmL103, hmT103, hmD103] <;> omega)) (Bf  rfl ?_); have er := Option.some.inj h; subst er
     try simp -implicitDefEqProofs (disch := omega) [go_sem, Ac, Ak, Ad, Ae, hmL103, hmT103, hmD103]
     exact Bu (by exact Bm (Ext.Ao (Ext.Ao (Ext.refl hw) ka0) ka1)) (((Dl.refl _).del ka0).del ka1) (hP _ rfl)
noncomputable def F37 (a0 : S25) (a1 : List S55) (a2 : List UInt8) : Option S25 :=
 some (⟨a0.Ea, a1, a2⟩ : S25)
set_option maxHeartbeats 8000000 in
set_option pp.deepTerms false in
set_option maxRecDepth 60000 in
theorem Tp {H : A0} {K : Am → A0 → Prop} (a0 : S25) (a1 : List S55) (a2 : List UInt8) (ka0 : Nat) (Ac : H.obj ka0 = some (.cells ([.v (.int .i64 a0.Ea), .sl 2 (a0.Aj.map fun x => [.v (str x.fName), .v (str x.A5)]), .sl 1 (a0.An.map fun x => [.v (.int .u8 x.toNat)])]))) {r : S25} (h : F37 a0 a1 a2 = some r) (hK : K (.ret (.tu [])) (Dh H [(ka0, .cells ([.v (.int .i64 r.Ea), .sl 2 (r.Aj.map fun x => [.v (str x.fName), .v (str x.A5)]), .sl 1 (r.An.map fun x => [.v (.int .u8 x.toNat)])]))])) : A3 prog 37 [.p ka0 0, .sl 2 (a1.map fun x => [.v (str x.fName), .v (str x.A5)]), .sl 1 (a2.map fun x => [.v (.int .u8 x.toNat)])] H K := by
 refine A9 (N := 14) func37 (by kernel_rfl) rfl (by kernel_rfl) (by kernel_rfl) fun cb hcb hw hbd hnb => ?_; clear hbd hnb; subst hcb; unfold F37 at h; have NC : ka0 < H.next := Nat.lt_of_not_le fun q => by rw [hw _ q] at Ac; cases Ac
 refine vcK ?_
 try simp -implicitDefEqProofs (disch := omega) [go_sem, Ac]
 have er := Option.some.inj h; subst er
 try simp -implicitDefEqProofs (disch := omega) [go_sem, Ac]
 refine AL (r' := .tu []) (io1 ka0 (.cells ([.v (.int .i64 a0.Ea), .sl 2 (a1.map fun x => [.v (str x.fName), .v (str x.A5)]), .sl 1 (a2.map fun x => [.v (.int .u8 x.toNat)])])) (by exact A8 (Ext.Ao (Ext.refl hw) ka0)) (by omega) (by first | with_reducible assumption | rfl | simp -implicitDefEqProofs (disch := omega) [go_sem, Ac]) (by first | exact nbA | exact BP | exact BB)) (by first | with_reducible rfl | (simp -implicitDefEqProofs (disch := omega) [go_sem, Ac] <;> omega)) (.same (by first | exact nbA | exact BP | exact BB)) hK
end Go.Idl
