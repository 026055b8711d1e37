/- Their rows, and the pairs of these, in whatever order: the saying of the case law 20 Part 6. Conditions: none. -/
import Derived.Test.YtbgebljjmpklkaaGreatDoorPartE
import Derived.Shelf.Strings.Split
import Derived.Lib.AtoiTie
import Derived.Sort.Walk0
import Derived.Lib.MinMax
set_option linter.unusedSimpArgs false
set_option linter.unusedVariables false
namespace Go.Idl
set_option maxHeartbeats 8000000
set_option pp.deepTerms false
set_option maxRecDepth 60000
open Go Go.Proofs.Tryz
noncomputable def Ju  : Option Bool :=
 some true
theorem Ee {H : A2} {K : Aw → A2 → Prop}  {r : Bool} (h : Ju  = some r) (hK : K (.ret (.v (.bool r))) H) : Ac prog 42 [.v (.pointer none)] H K := by
 refine Ag (N := 13) func42 (by kernel_rfl) rfl (by kernel_rfl) (by kernel_rfl) fun cb hcb hw hbd hnb => ?_; clear hbd hnb; subst hcb; unfold Ju at h; refine wG ?_; refine wG ?_; obtain rfl := sI h; refine vS ?_; exact Av (.refl hw) hK
noncomputable def Z0 (a1 : List UInt8) : Option (S39 × Bool) :=
 (Ju ).bind fun (x4 : Bool) => some (((⟨[], [], [[], [], [], [], [], [], [], []]⟩ : S39), false))
theorem jg {H : A2} {K : Aw → A2 → Prop} (a1 : List UInt8) {r : S39 × Bool} (h : Z0 a1 = some r) (hK : K (.ret (.tu [.ag (.v (str r.1.Ad) :: .v (str r.1.Am) :: (r.1.A5.map fun x => .sl 1 (x.map fun x => [.v (str x)]))), .v (.bool r.2)])) H) : Ac prog 21 [.v (.pointer none), .v (str a1)] H K := by
 refine Ag (N := 24) func21 (by kernel_rfl) rfl (by kernel_rfl) (by kernel_rfl) fun cb hcb hw hbd hnb => ?_; clear hbd hnb; subst hcb; unfold Z0 at h; refine wG ?_; refine A3 fun cb hc2 => ?_; refine A3 fun cb hc3 => ?_; refine vG ?_; obtain ⟨x4, hx4, h⟩ := A4 h; cases (show some true = some x4 from hx4); refine Ee  hx4 ?_; refine sG ?_; subst hc3; refine Ao eA rfl ?_; refine A3 fun cb hc5 => ?_; refine v0 ?_; simp -implicitDefEqProofs (disch := omega) [go_sem, bdP]; subst hc5; obtain rfl := sI h; refine vS ?_; refine As (J := H) (r' := _) (Ext.Cy (by exact Au (Ext.refl hw))) eA (.wk _ (.tu [.ag ([.v (str []), .v (str []), .sl 1 ((([] : List (List UInt8))).map fun x => [.v (str x)]), .sl 1 ((([] : List (List UInt8))).map fun x => [.v (str x)]), .sl 1 ((([] : List (List UInt8))).map fun x => [.v (str x)]), .sl 1 ((([] : List (List UInt8))).map fun x => [.v (str x)]), .sl 1 ((([] : List (List UInt8))).map fun x => [.v (str x)]), .sl 1 ((([] : List (List UInt8))).map fun x => [.v (str x)]), .sl 1 ((([] : List (List UInt8))).map fun x => [.v (str x)]), .sl 1 ((([] : List (List UInt8))).map fun x => [.v (str x)])]), .v (.bool false)]) (by repeat (first | exact WkL.nil | refine WkL.cons ?_ ?_ | exact Wk.refl _ | exact Wk.nil _ | refine Wk.agL ?_ | refine Wk.tuL ?_)) (by exact nbA)) hK
noncomputable def V2  : Option (S33 × Bool) :=
 (Ju ).bind fun (x4 : Bool) => some (((⟨[], [], [], [[], [], [], [], [], [], [], []]⟩ : S33), false))
theorem V3 {H : A2} {K : Aw → A2 → Prop}  {r : S33 × Bool} (h : V2  = some r) (hK : K (.ret (.tu [.ag (.v (str r.1.Ad) :: .v (str r.1.Am) :: .sl 2 (r.1.fDn.map fun x => [.v (str x.fType), .v (str x.Aa)]) :: (r.1.A5.map fun x => .sl 1 (x.map fun x => [.v (str x)]))), .v (.bool r.2)])) H) : Ac prog 26 [.v (.pointer none)] H K := by
 refine Ag (N := 21) func26 (by kernel_rfl) rfl (by kernel_rfl) (by kernel_rfl) fun cb hcb hw hbd hnb => ?_; clear hbd hnb; subst hcb; unfold V2 at h; refine wG ?_; refine A3 fun cb hc2 => ?_; refine A3 fun cb hc3 => ?_; refine vG ?_; obtain ⟨x4, hx4, h⟩ := A4 h; cases (show some true = some x4 from hx4); refine Ee  hx4 ?_; refine sG ?_; subst hc3; refine Ao eA rfl ?_; refine A3 fun cb hc5 => ?_; refine v0 ?_; simp -implicitDefEqProofs (disch := omega) [go_sem, bdP]; subst hc5; obtain rfl := sI h; refine vS ?_; refine As (J := H) (r' := _) (Ext.Cy (by exact Au (Ext.refl hw))) eA (.wk _ (.tu [.ag ([.v (str []), .v (str []), .sl 2 (([] : List S89).map fun x => [.v (str x.fType), .v (str x.Aa)]), .sl 1 ((([] : List (List UInt8))).map fun x => [.v (str x)]), .sl 1 ((([] : List (List UInt8))).map fun x => [.v (str x)]), .sl 1 ((([] : List (List UInt8))).map fun x => [.v (str x)]), .sl 1 ((([] : List (List UInt8))).map fun x => [.v (str x)]), .sl 1 ((([] : List (List UInt8))).map fun x => [.v (str x)]), .sl 1 ((([] : List (List UInt8))).map fun x => [.v (str x)]), .sl 1 ((([] : List (List UInt8))).map fun x => [.v (str x)]), .sl 1 ((([] : List (List UInt8))).map fun x => [.v (str x)])]), .v (.bool false)]) (by repeat (first | exact WkL.nil | refine WkL.cons ?_ ?_ | exact Wk.refl _ | exact Wk.nil _ | refine Wk.agL ?_ | refine Wk.tuL ?_)) (by exact nbA)) hK
noncomputable def V4  : Option (List S39) :=
 (Ju ).bind fun (x5 : Bool) => some ([] : List S39)
theorem V5 {H : A2} {K : Aw → A2 → Prop}  {r : (List S39)} (h : V4  = some r) (hK : K (.ret (.fn (.func 46) [] [.cp [.sl 10 (r.map k39)]])) H) : Ac prog 14 [.v (.pointer none)] H K := by
 refine Ag (N := 34) func14 (by kernel_rfl) rfl (by kernel_rfl) (by kernel_rfl) fun cb hcb hw hbd hnb => ?_; clear hbd hnb; subst hcb; unfold V4 at h; refine wG ?_; refine wG ?_; refine A3 fun cb hc3 => ?_; refine A3 fun cb hc4 => ?_; refine vG ?_; obtain ⟨x5, hx5, h⟩ := A4 h; cases (show some true = some x5 from hx5); refine Ee  hx5 ?_; refine sG ?_; subst hc4; refine Ap eA rfl ?_; refine vO ?_; subst hc3; refine wG ?_; obtain rfl := sI h; refine vS ?_; refine As (J := H) (r' := .fn (.func 46) [] [.cp [.sl 10 (([] : List S39).map k39)]]) (Ext.Cy (by exact Au (Ext.refl hw))) rfl (Fz.Oo (Xg (hw _ (by omega)) eA)) hK
end Go.Idl
namespace Go.Idl
set_option maxHeartbeats 8000000
set_option pp.deepTerms false
set_option maxRecDepth 60000
open Go Go.Proofs.Tryz
noncomputable def V6  : Option Int :=
 (Ju ).bind fun (x4 : Bool) => some 0
theorem V7 {H : A2} {K : Aw → A2 → Prop}  {r : Int} (h : V6  = some r) (hK : K (.ret (.v (.int .i64 r))) H) : Ac prog 34 [.v (.pointer none)] H K := by
 refine Ag (N := 11) func34 (by kernel_rfl) rfl (by kernel_rfl) (by kernel_rfl) fun cb hcb hw hbd hnb => ?_; clear hbd hnb; subst hcb; unfold V6 at h; refine wG ?_; refine A3 fun cb hc2 => ?_; refine A3 fun cb hc3 => ?_; refine vG ?_; obtain ⟨x4, hx4, h⟩ := A4 h; cases (show some true = some x4 from hx4); refine Ee  hx4 ?_; refine sG ?_; subst hc3; refine Ao eA rfl ?_; refine wG ?_; obtain rfl := sI h; refine vS ?_; exact Av (.refl hw) hK
noncomputable def V8 (CO : List (List UInt8 × S39)) (CP : List (List UInt8 × (List UInt8))) (IU : Option S33) : Option Bool :=
 (Ju ).bind fun (x4 : Bool) => (Ju ).bind fun (x6 : Bool) => (F42 CO CP IU).bind fun (x7 : Bool) => some false
theorem V9 {H : A2} {K : Aw → A2 → Prop} (CO : List (List UInt8 × S39)) (CP : List (List UInt8 × (List UInt8))) (IU : Option S33) (ka1 : Nat) (CW : Nat) (CX : Nat) (HI : H.obj ka1 = some (.cells ([.mp CW, .mp CX, AT k33 IU]))) (Fq : H.obj CW = some (.map (mE k39g CO))) (Ft : H.obj CX = some (.map (mE (fun (x : List UInt8) => .v (str x)) CP))) {r : Bool} (h : V8 CO CP IU = some r) (hK : K (.ret (.v (.bool r))) H) : Ac prog 23 [.v (.pointer none), .p ka1 0] H K := by
 refine Ag (N := 22) func23 (by kernel_rfl) rfl (by kernel_rfl) (by kernel_rfl) fun cb hcb hw hbd hnb => ?_; clear hbd hnb; subst hcb; unfold V8 at h; have aJ : ka1 < H.next := Nat.lt_of_not_le fun q => by rw [hw _ q] at HI; cases HI
 have V0 : CW < H.next := Nat.lt_of_not_le fun q => by rw [hw _ q] at Fq; cases Fq
 have V1 : CX < H.next := Nat.lt_of_not_le fun q => by rw [hw _ q] at Ft; cases Ft
 refine wG ?_; refine A3 fun cb hc2 => ?_; refine A3 fun cb hc3 => ?_; refine vG ?_; obtain ⟨x4, hx4, h⟩ := A4 h; cases (show some true = some x4 from hx4); refine Ee  hx4 ?_; refine sG ?_; subst hc3; refine Ao eA rfl ?_; refine A3 fun cb hc5 => ?_; refine vG ?_; obtain ⟨x6, hx6, h⟩ := A4 h; cases (show some true = some x6 from hx6); refine Ee  hx6 ?_; refine sG ?_; obtain ⟨x7, hx7, h⟩ := A4 h; cases (show some false = some x7 from hx7); refine BT CO CP IU ka1 CW CX (by assumption) (by assumption) (by assumption) hx7 ?_; refine sG ?_; subst hc5; obtain rfl := sI h; refine vS ?_; exact Av (.refl hw) hK
end Go.Idl
namespace Go.Idl
open Go Go.RowKit
variable {P : Program} {N : Nat} {tm : Tm} {H : A2}
theorem Qk {P : Program} (t : TypeId) (v : Value) (w : World) : (Instr.panic (.iface t v)).run P w = .halt (.panic (.iface t v)) w := by
 simp [Instr.panic]
theorem OW {o : Oper} {K : IV → A2 → Prop} {Qp : List PanicEntry → A2 → Prop} {x : Operand} (ho : o.op = .panic x) (hok : okO N o = true) {t : TypeId} {y : Value} (hv : vOf (ev tm x) = some (.iface t y))
    (hq : Qp [{ v := .iface t y, recovered := false }] H) : AD P N o tm H K Qp := by
 refine ⟨fun c e => (by rw [ho] at e; cases e), fun rr w g a s r hN => ?_⟩; subst hN; simp only [okO, ho, Bool.and_eq_true, List.all_eq_true, Op.operands] at hok; have rx := St (r.ev (x := x) (hok.1 x (by simp))) hv; have hrun : (execOp a.eval o).run P w = .halt (.panic (.iface t y)) w := by
  simp [execOp, ho, rx, Qk]
 rw [hrun]; exact ⟨_, g, H, rfl, rfl, .refl w g, s, hq⟩
theorem Ql {f : FuncId} {fn : Func} {c : Code} {args : List IV} {K : Aw → A2 → Prop} (hf : P.funcs[f]? = some fn) (hbd : Bl P f = true) (hb : fn.body = some c) (hN : fn.ntmps = N)
    (hn : (decide (args.length ≤ N) && fn.results.toList.all (rvN N)) = true)
    (h : ∀ cb, cb = c → H.Wf → ID P N cb (U0 P fn.results.toList H K) (tm0 args) H []) : Ac P f args H K := by
 subst hN; simp only [Bool.and_eq_true, decide_eq_true_eq] at hn; exact KB hbd hf hb hn.1 hn.2 fun hw => h c rfl hw
theorem L9 {f : FuncId} {fn : Func} {c : Code} {args : List IV} {u : FrameMode} {K : Aw → FrameMode → A2 → Prop} (hf : P.funcs[f]? = some fn) (hbd : Bl P f = true) (hb : fn.body = some c) (hN : fn.ntmps = N)
    (hn : (decide (args.length ≤ N) && fn.results.toList.all (rvN N)) = true)
    (h : ∀ cb, cb = c → H.Wf → IE P N cb (WW P fn.results.toList H K) (tm0 args) H u) : BK P f args u H K := by
 subst hN; simp only [Bool.and_eq_true, decide_eq_true_eq] at hn; exact JD hbd hf hb hn.1 hn.2 fun hw => h c rfl hw
theorem BK.eqA {f : FuncId} {args args' : List IV} {u : FrameMode} {K : Aw → FrameMode → A2 → Prop} (e : args = args') (h : BK P f args' u H K) : BK P f args u H K := e ▸ h
section
variable {K : Tm → A2 → List GD → Prop} {Q : Exit → Tm → A2 → List GD → Prop} {dl : List GD} {c : List PanicEntry} {l : Nat}
@[go_sem] theorem XC : KA K Q .normal tm H dl = K tm H dl := rfl
@[go_sem] theorem bD : KA K Q (.exit l) tm H dl = Q (.exit l) tm H dl := rfl
@[go_sem] theorem bE : KA K Q (.goto l) tm H dl = Q (.goto l) tm H dl := rfl
@[go_sem] theorem gv : KA K Q .ret tm H dl = Q .ret tm H dl := rfl
@[go_sem] theorem Z1 : KA K Q (.panic c) tm H dl = Q (.panic c) tm H dl := rfl
end
section
variable {K : Tm → A2 → FrameMode → Prop} {Q : Exit → Tm → A2 → FrameMode → Prop} {u : FrameMode} {c : List PanicEntry} {l : Nat}
@[go_sem] theorem XD : thenS K Q .normal tm H u = K tm H u := rfl
@[go_sem] theorem bF : thenS K Q (.exit l) tm H u = Q (.exit l) tm H u := rfl
@[go_sem] theorem bG : thenS K Q (.goto l) tm H u = Q (.goto l) tm H u := rfl
@[go_sem] theorem gw : thenS K Q .ret tm H u = Q .ret tm H u := rfl
@[go_sem] theorem Z2 : thenS K Q (.panic c) tm H u = Q (.panic c) tm H u := rfl
end
section
variable {H0 : A2} {rs : List ResultVar} {Q : Aw → A2 → Prop} {dl : List GD} {c : List PanicEntry} {q : GD}
@[go_sem] theorem bH : PG P rs H0 Q (.panic c) tm H = ((∃ J, BI H0 H J ∧ Q (.pan c) J) ∨ Q (.pan c) H) := rfl
@[go_sem] theorem Z3 : U0 P rs H0 Q .normal tm H dl = LvD P rs H0 Q tm dl .returning H := rfl
@[go_sem] theorem ji : U0 P rs H0 Q .ret tm H dl = LvD P rs H0 Q tm dl .returning H := rfl
@[go_sem] theorem bI : U0 P rs H0 Q (.panic c) tm H dl = LvD P rs H0 Q tm dl (.panicking c) H := rfl
@[go_sem] theorem lU : LvD P rs H0 Q tm [] .returning H = PO (G7 P H tm rs) H0 Q H := JK
@[go_sem] theorem jj : LvD P rs H0 Q tm [] (.panicking c) H = ((∃ J, BI H0 H J ∧ Q (.pan c) J) ∨ Q (.pan c) H) := rfl
theorem XE (h : BK P q.f (q.args ++ q.cap) .returning H (lvQ (LvD P rs H0 Q tm dl))) : LvD P rs H0 Q tm (q :: dl) .returning H := ⟨by simp, h⟩
theorem Rk (h : BK P q.f (q.args ++ q.cap) (.panicking c) H (lvQ (LvD P rs H0 Q tm dl))) : LvD P rs H0 Q tm (q :: dl) (.panicking c) H := ⟨by simp, h⟩
end
section
variable {H0 : A2} {rs : List ResultVar} {Q : Aw → FrameMode → A2 → Prop} {c : List PanicEntry} {u : FrameMode}
@[go_sem] theorem Z4 : WW P rs H0 Q .normal tm H u = PO (G7 P H tm rs) H0 (fun e J => Q e u J) H := JK
@[go_sem] theorem bJ : WW P rs H0 Q (.panic c) tm H u = ((∃ J, BI H0 H J ∧ Q (.pan c) u J) ∨ Q (.pan c) u H) := rfl
end
section
variable {K : FrameMode → A2 → Prop} {u : FrameMode} {c : List PanicEntry} {i : IV} {v : Value}
@[go_sem] theorem lV : lvQ K (.ret i) u H = K (settle u) H := rfl
@[go_sem] theorem lW : lvQ K (.pan c) u H = K (raised u c) H := rfl
@[go_sem] theorem bK : settle .returning = .returning := rfl
@[go_sem] theorem bL : settle (.panicking [{ v := v, recovered := true }]) = .returning := rfl
@[go_sem] theorem bM : settle (.panicking [{ v := v, recovered := false }]) = .panicking [{ v := v, recovered := false }] := rfl
@[go_sem] theorem jk : MX (.panicking [{ v := v, recovered := false }]) = (v, .panicking [{ v := v, recovered := true }]) := rfl
@[go_sem] theorem jo : MX .returning = (.nilIface, .returning) := rfl
end
def isD : Op → Bool
  | .defer _ => true
  | _ => false
section
variable {full : Array Oper} {L : List Oper} {Q : Exit → Tm → A2 → List GD → Prop} {dl : List GD} {d : Option Tmp} {t : TypeId} {p : String} {af : Array Edge}
theorem Qm : Ev P N full [] Q tm H dl = Q .normal tm H dl := rfl
theorem NA {x : Operand} {l : List Operand} {ats : Array TypeId} : Ev P N full (⟨d, .defer ⟨.value x, ⟨l⟩, ats⟩, t, p, af, none⟩ :: L) Q tm H dl =
    Dd (fnP (ev tm x)) (fun f cap => Ev P N full L Q (Bw tm d (.v undef)) H (⟨f, cap, l.map (ev tm)⟩ :: dl)) False := propext ⟨fun h => h.2, fun h => ⟨rfl, h⟩⟩
theorem SG {op : Op} (h : isD op = false) : Ev P N full (⟨d, op, t, p, af, none⟩ :: L) Q tm H dl =
    BL P N ⟨d, op, t, p, af, none⟩ tm H (fun x H' => Ev P N full L Q (Bw tm d x) H' dl) (fun ch H' => Q (.panic ch) tm H' dl) := by
 cases op <;> first | (simp [isD] at h; done) | exact propext ⟨fun h => h.2, fun h => ⟨rfl, h⟩⟩
end
structure Dl (H D : A2) : Prop where
  next : D.next = H.next
  sn : D.sn = H.sn
  sub : ∀ k o, D.obj k = some o → H.obj k = some o
theorem Dl.refl (H : A2) : Dl H H := ⟨rfl, rfl, fun _ _ h => h⟩
theorem Dl.del {D : A2} (h : Dl H D) (k : Nat) : Dl H (D.del k) := ⟨h.next, h.sn, fun i o hi => by
  simp only [A2.del] at hi
  split at hi
  · cases hi
  · exact h.sub i o hi⟩
theorem Dl.Cy {D H' : A2} (h : Dl H D) (he : Ext D H') : BI H H' D :=
  ⟨by rw [h.next]; exact Nat.le_refl _, he.le, he.sub, fun k o hk => Nat.lt_of_not_le fun q => (by rw [he.wf k q] at hk; cases hk), .inr fun k o hk => .inl (h.sub k o hk), h.sn⟩
theorem Ext.nF {H' : A2} (h : Ext H H') {k : Nat} (hk : H.obj k = none) : Ext H (H'.del k) := by
 refine ⟨h.wf, h.le, fun i o' hi => ?_, h.sn⟩; simp only [A2.del]; by_cases e : i = k
 ·subst e; rw [hk] at hi; cases hi
 ·rw [if_neg e]; exact h.sub i o' hi
theorem Fu {H0 D : A2} {Q : Aw → A2 → Prop} {c : List PanicEntry} (he : Ext D H) (hd : Dl H0 D) (h : Q (.pan c) D) : (∃ J, BI H0 H J ∧ Q (.pan c) J) ∨ Q (.pan c) H := .inl ⟨D, hd.Cy he, h⟩
theorem ER {H0 H1 H : A2} (h1 : Ext H0 H1)
    (he : Ext H0 H1 → Ext H0 H := by intro he1; repeat (first | exact he1 | refine Ext.skip ?_ | refine Ext.new ?_ _ | refine Ext.set ?_ (by first | omega | (simp [go_sem]; done) | (simp [go_sem]; omega)) _ | refine Ext.del ?_ (by first | omega | (simp [go_sem]; done) | (simp [go_sem]; omega)) | refine Ext.nF ?_ (by simp [go_sem]) | refine Ext.iP ?_ (by simp [go_sem]) _)) : Ext H0 H := he h1
def orP {ε α β : Type} (x : Except ε α) (p : ε → β) (k : α → β) : β :=
  match x with
  | .error e => p e
  | .ok a => k a
theorem JZ {ε α β : Type} {a : α} {p : ε → Option β} {k : α → Option β} {r : β} (h : orP (.ok a) p k = some r) : k a = some r := h
theorem HW {ε α β : Type} {e : ε} {p : ε → Option β} {k : α → Option β} {r : β} (h : orP (.error e) p k = some r) : p e = some r := h
end Go.Idl
namespace Go.Idl
open Go Go.RowKit
variable {P : Program} {N : Nat} {tm : Tm} {H : A2}
theorem GP {t xT : TypeId} {d : TypeDesc} {v : Value} {w : World} (hu : P.underlying t = some d) (hd : ∀ ms, d ≠ .interface ms) : (Instr.typeAssert (.iface t v) xT t true).run P w = .ok (.tuple #[v, .bool true]) w := by
 cases d <;> first | (exact absurd rfl (hd _)) | simp [Instr.typeAssert, run_underlying hu]
theorem NC {o : Oper} {K : IV → A2 → Prop} {Qp : List PanicEntry → A2 → Prop} {x : Operand} {xT T : TypeId} {d : TypeDesc} {c : IV} (ho : o.op = .typeAssert x xT T true) (hok : okO N o = true) (hx : ev tm x = .ifc T c)
    (hu : P.underlying T = some d) (hd : ∀ ms, d ≠ .interface ms) (hK : K (.tu [c, .v (.bool true)]) H) : AD P N o tm H K Qp := by
 refine Kb (i := .tu [c, .v (.bool true)]) (fun c e => by rw [ho] at e; cases e) (fun w g a r hN => ?_) hK; subst hN; simp only [okO, ho, Bool.and_eq_true, List.all_eq_true, Op.operands] at hok; have rx := r.ev (x := x) (hok.1 x (by simp)); rw [hx] at rx; generalize hz : a.eval x = z at rx; cases rx with
 | ifc _ y _ hy =>
  refine ⟨.tuple #[y, .bool true], ?_, .tu _ _ rfl ?_⟩
  ·simp [execOp, ho, hz, GP hu hd]
  ·intro j x' c' h1 h2
   match j, h1, h2 with
   | 0, h1, h2 => simp at h1 h2; subst h1; subst h2; exact hy
   | 1, h1, h2 => simp at h1 h2; subst h1; subst h2; exact .v _
   | j + 2, h1, h2 => simp at h2
theorem ND {o : Oper} {K : IV → A2 → Prop} {Qp : List PanicEntry → A2 → Prop} {t : TypeId} {x y : Operand} {k off : Nat} (ho : o.op = .store t x y) (hok : okO N o = true) (hx : ev tm x = .p k off) (hy : ev tm y = .ag [])
    (hs : ∀ w, (sizeOf t).run P w = .ok 0 w) (hK : K (.v undef) H) : AD P N o tm H K Qp := by
 refine B3 (fun c e => by rw [ho] at e; cases e) fun w g a s r hN => ?_; subst hN; simp [okO, ho, Op.operands] at hok; have rx := r.ev (x := x) hok.1.1; have ry := PV (by have := r.ev (x := y) hok.1.2; rwa [hy] at this); rw [hx] at rx; obtain ⟨b, hb⟩ := rx.Io; refine ⟨undef, w, g, H, .v undef, .inr ⟨?_, rfl⟩, .refl w g, s, .v _, hK⟩; simp [execOp, ho, hb, ry, Instr.storeAt, Instr.sureAddr, storeVar, hs, Value.cells, storeCells]
def HX : ResultVar → Nat
  | .tmp t => t
  | .cell a _ => a
def jq (ops : Array Oper) (rs : List ResultVar) : Bool := ops.toList.all fun o => rs.all fun r => o.dst != some (HX r)
theorem La {tm' : Tm} : ∀ {rs : List ResultVar}, (∀ r, r ∈ rs → tm (HX r) = tm' (HX r)) → G7 P H tm rs = G7 P H tm' rs
  | [], _ => rfl
  | r :: rs, h => by
    have h1 : rvI P H tm r = rvI P H tm' r := by
      have := h r (by simp)
      cases r <;> simp only [HX] at this <;> simp only [rvI, this]
    simp only [G7, h1, La (rs := rs) fun r hr => h r (by simp [hr])]
theorem IW {tm' : Tm} {rs : List ResultVar} {H0 : A2} {Q : Aw → A2 → Prop} (h : ∀ r, r ∈ rs → tm (HX r) = tm' (HX r)) : ∀ {dl : List GD} {u : FrameMode} {H : A2}, LvD P rs H0 Q tm dl u H → LvD P rs H0 Q tm' dl u H
  | [], .returning, H, ⟨s, is, h1, h2⟩ => ⟨s, is, by rw [← La h]; exact h1, h2⟩
  | [], .panicking _, _, hl => hl
  | [], .run, _, hl => hl
  | q :: dl, u, H, ⟨h1, h2⟩ => ⟨h1, h2.mono fun e u' H' hq => by
    cases e with
    | ret => exact IW (dl := dl) h hq
    | pan => exact IW (dl := dl) h hq⟩
theorem XF {rs : List ResultVar} {H0 : A2} {Q : Aw → A2 → Prop} {ops : Array Oper} {i : Nat} {oi : Oper} {x : IV} {dl : List GD} {u : FrameMode} (hc : jq ops rs = true) (ho : ops[i]? = some oi)
    (h : LvD P rs H0 Q (Bw tm oi.dst x) dl u H) : LvD P rs H0 Q tm dl u H := by
 refine IW (fun r hr => ?_) h; have h1 := List.all_eq_true.1 hc oi (by rw [Array.mem_toList_iff]; exact Array.mem_of_getElem? ho); have h2 := List.all_eq_true.1 h1 r hr; cases hd : oi.dst with
 | none => rfl
 | some d =>
  rw [hd] at h2; have h3 : ¬ d = HX r := by simpa using h2
  show (if HX r = d then x else tm (HX r)) = _; rw [if_neg (fun e => h3 e.symm)]
end Go.Idl
namespace Go.Idl
set_option maxHeartbeats 8000000
set_option maxRecDepth 60000
set_option pp.deepTerms false
open Go Go.Proofs.Tryz
theorem Rn.tuL {H J : A2} {ρ : Nat → Nat} {m : Nat} {l k : List IV} (h : RnL H J ρ m l k) : Rn H J ρ m (.tu l) (.tu k) := .tu _ _ h.len h.get
def opP {α β : Type} (x : Option α) (n : β) (s : α → β) : β :=
  match x with
  | none => n
  | some a => s a
theorem Va {α β : Type} {n : Option β} {s : α → Option β} {r : β} (h : opP none n s = some r) : n = some r := h
theorem Vb {α β : Type} {a : α} {n : Option β} {s : α → Option β} {r : β} (h : opP (some a) n s = some r) : s a = some r := h
def GQ (_ : Unit) : List PanicEntry := [{ v := .iface 187 (.agg #[]), recovered := false }]
theorem GR {H : A2} {K : Aw → A2 → Prop} {c : Bool} (hc : c = true) (hK : K (.ret (.tu [])) H) : Ac prog 136 [.v (.bool c)] H K := by
 subst hc; refine Ag (N := 6) func136 (by kernel_rfl) rfl (by kernel_rfl) (by kernel_rfl) fun cb hcb hw hbd hnb => ?_; subst hcb; refine AF _ (by kernel_rfl) _ _ _ ?_; simp -implicitDefEqProofs [go_sem]; exact AN (.refl hw) (Ff .nil) hK
theorem Cd {H : A2} {K : Aw → A2 → Prop} {c : Bool} (hc : c = false) (hP : K (.pan (GQ ())) H) : Ac prog 136 [.v (.bool c)] H K := by
 subst hc; refine Ag (N := 6) func136 (by kernel_rfl) rfl (by kernel_rfl) (by kernel_rfl) fun cb hcb hw hbd hnb => ?_; subst hcb; refine AF _ (by kernel_rfl) _ _ _ ?_; simp -implicitDefEqProofs [go_sem, bdP]; refine (show AD prog 6 _ _ _ _ _ from ?_); refine OW rfl (by kernel_rfl) (t := 187) (y := .agg #[]) (by simp [go_sem, vOf]) ?_; simp -implicitDefEqProofs [go_sem]; exact .inr hP
theorem Vc {H : A2} {Q : Aw → FrameMode → A2 → Prop} {kd ke : Nat} (hQ : Q (.ret (.tu [])) .returning H) : BK prog 132 [.p kd 0, .p ke 0] .returning H Q := by
 refine L9 (N := 11) func132 (by kernel_rfl) rfl (by kernel_rfl) (by kernel_rfl) fun cb hcb hw => ?_; subst hcb; refine M4 fun cb hc => ?_; refine Jn (by kernel_rfl) ?_; simp [GG, go_sem, U3]; subst hc; refine IE.of ?_; refine AF _ (by kernel_rfl) _ _ _ ?_; simp -implicitDefEqProofs [go_sem, O2]; exact AN (.refl hw) (Ff .nil) hQ
theorem OX {H : A2} {Q : Aw → FrameMode → A2 → Prop} (kd ke : Nat) (cd ce : IV) (okd : H.obj kd = some (.cells [cd])) (oke : H.obj ke = some (.cells [ce])) (hd : ¬ ke = kd)
    (hQ : Q (.ret (.tu [])) (.panicking [{ v := .iface 187 (.agg #[]), recovered := true }]) ((H.set kd (.cells [.v (.slice none 0 0)])).set ke (.cells [.v (.int .i64 160)]))) :
    BK prog 132 [.p kd 0, .p ke 0] (.panicking (GQ ())) H Q := by
 refine L9 (N := 11) func132 (by kernel_rfl) rfl (by kernel_rfl) (by kernel_rfl) fun cb hcb hw => ?_; subst hcb; refine M4 fun cb hc => ?_; refine Jn (by kernel_rfl) ?_; simp [GG, go_sem, U3, GQ]; subst hc; refine IE.of ?_; refine Ak ?_; refine A3 fun cb hc => ?_; refine AF _ (by kernel_rfl) _ _ _ ?_; simp -implicitDefEqProofs [go_sem, O2]; subst hc; refine Ap (by simp [go_sem]) rfl ?_; refine A3 fun cb hc => ?_; refine AF _ (by kernel_rfl) _ _ _ ?_; simp -implicitDefEqProofs [go_sem]; refine (show AD prog 11 _ _ _ _ _ from ?_); refine NC (T := 187) (c := .ag []) rfl (by kernel_rfl) (by simp [go_sem]) underlying187 (by simp) ?_; simp -implicitDefEqProofs [go_sem]; subst hc; refine Ao (by simp [go_sem]) rfl ?_; refine A3 fun cb hc => ?_; refine K9 ?_; refine (show K7 prog 11 _ [0, 1] _ _ _ from ?_); refine K8 rfl (fun _ _ _ _ _ => rfl) (Es (by kernel_rfl) ?_); simp -implicitDefEqProofs [go_sem]; refine K8 rfl (fun _ _ _ _ _ => rfl) ?_; refine ND rfl (by kernel_rfl) (k := H.next) (off := 0) (by simp [go_sem]) (by simp [go_sem]) (fun w => by kernel_rfl) ?_; refine NY ?_; have hkd : ¬ kd = H.next := fun q => by rw [q, hw _ (Nat.le_refl _)] at okd; cases okd
 have hke : ¬ ke = H.next := fun q => by rw [q, hw _ (Nat.le_refl _)] at oke; cases oke
 simp -implicitDefEqProofs [go_sem]; subst hc; refine AF _ (by kernel_rfl) _ _ _ ?_; simp -implicitDefEqProofs [go_sem, okd, oke, hd, hkd, hke]; have lkd : kd < H.next := Nat.lt_of_not_le fun q => by rw [hw _ q] at okd; cases okd
 have lke : ke < H.next := Nat.lt_of_not_le fun q => by rw [hw _ q] at oke; cases oke
 have hd' : ¬ kd = ke := fun q => hd q.symm; refine BA (J := BJ H [(kd, .cells [.v (.slice none 0 0)]), (ke, .cells [.v (.int .i64 160)])]) (BI.ioL _ ?_ ?_) (.same (Ff .nil)) hQ
 ·simp only [AX, B6]; exact ER (Ext.AK (Ext.AK (Ext.refl hw) kd) ke)
 ·intro p hp; simp only [List.mem_cons, List.not_mem_nil, or_false] at hp; rcases hp with hp | hp <;> subst hp
  ·exact ⟨lkd, by simp [go_sem, hd', hkd], C5⟩
  ·exact ⟨lke, by simp [go_sem], C5⟩
end Go.Idl
namespace Go.Idl
open Go Go.RowKit Go.Proofs Go.Shelf
variable {P : Program} {H : A2} {K : Aw → A2 → Prop}
theorem OY (w : World) (o : Obj) : Below w.heap.size w (w.alloc o) := by
 refine ⟨rfl, rfl, rfl, ?_, fun i hi => ?_⟩
 ·show w.heap.size ≤ (w.heap.push o).size; simp
 ·show (w.heap.push o)[i]? = w.heap[i]?; rw [Array.getElem?_push]; split
  ·omega
  ·rfl
theorem Qn (w : World) (xs : Array Value) (t : TypeId) (i : Nat) : World.cell? (w.alloc (.cells xs t)) ⟨w.heap.size, i, none⟩ = xs[i]? := by
 have h : (w.alloc (.cells xs t)).heap[w.heap.size]? = some (.cells xs t) := by
  show (w.heap.push (.cells xs t))[w.heap.size]? = _; simp
 unfold World.cell?; rw [h]; simp [Addr.spot]
theorem LK {ρ : Go.Shelf.Ren} {f : FuncId} (Ly : Lays.n147 P ρ) (hf : ρ.f 147 = f) (hi9 : (P.info? (ρ.t 9)).map (fun i => (i.zero, i.size, i.bytes)) = some (some (.string ByteArray.empty), 1, 16))
    (hg : P.globalNamed "internal/bytealg.MaxLen" = some (ρ.g 1)) (hb : Bl P f = true) (hV : VOK P H) (s t : List UInt8) (n : Nat) (hs : s.length < 4294967281) (ht : 1 ≤ t.length) (hn : 1 ≤ n) (hn63 : n ≤ 1000000)
    (hK : K (.ret (.sl 1 ((Lib.splitN s t n).map fun x => [.v (str x)]))) H) : Ac P f [.v (str s), .v (str t), .v (.int .i64 n)] H K := by
 refine ⟨hb, fun w g vs sm rl => ?_⟩; obtain ⟨x, y, z, rfl, hx, hy, hz⟩ : ∃ x y z, vs = #[x, y, z] ∧ R w g x (.v (str s)) ∧ R w g y (.v (str t)) ∧ R w g z (.v (.int .i64 n)) := by
  obtain ⟨l1, l2⟩ := rl; obtain ⟨vs⟩ := vs
  match vs, l1 with
  | [x, y, z], _ => exact ⟨x, y, z, rfl, l2 0 _ _ rfl rfl, l2 1 _ _ rfl rfl, l2 2 _ _ rfl rfl⟩
 rw [hx.v_eq, hy.v_eq, hz.v_eq, ← hf]; obtain ⟨b1, b2, b3, b4, t2, t3, p2, p3, x4, m4, q1, q2, q3, q5, q6, q4⟩ := hV; obtain ⟨el4, fz4, hc4⟩ := Fi sm q4 (i := 3) rfl; have e4 : b4 = ρ.g 1 := by rw [hg] at q5; exact (Option.some.inj q5).symm
 subst e4; have hm : w.cell? ⟨ρ.g 1, 0, none⟩ = some (.int .i64 m4) := by simp only [World.cell?, hc4]; exact q6
 refine (Any.strings_SplitN Ly hi9 ⟨s.toArray⟩ ⟨t.toArray⟩ n m4 w (by show s.toArray.size < _; simpa using hs) hm (by show 1 ≤ t.toArray.size; simpa using ht) hn (by omega)).mono ?_
 rintro e w' ⟨rfl, rfl⟩
 generalize hM : min n ((ByteArray.mk s.toArray).size + 1) = M; have hM' : min n (s.length + 1) = M := by rw [← hM]; rfl
 have hMn : M ≤ n := by omega
 have hM1 : 1 ≤ M := by omega
 generalize hL : Lib.splitB (ByteArray.mk t.toArray) 0 (M - 1) (ByteArray.mk s.toArray) = L; have hlen : L.length ≤ M := by
  have := Lib.splitB_length_le (ByteArray.mk t.toArray) 0 (M - 1) (ByteArray.mk s.toArray); rw [hL] at this; omega
 have hdata : Lib.splitN s t n = L.map (·.data.toList) := by
  have := Lib.splitB_data (ByteArray.mk t.toArray) 0 (M - 1) (ByteArray.mk s.toArray); rw [hL] at this; rw [this, Lib.splitN, hM']
 rw [hdata] at hK; have hB := OY w (.cells (Lib.cellsOf L M) (ρ.t 9)); refine ⟨_, g, H, .B9 hB, sm.B9 hB, .ret _ _ ?_, hK⟩; have hll : (List.map (fun x => [IV.v (str x)]) (L.map (·.data.toList))).length = L.length := by simp
 rw [← hll]; refine .sl w.heap.size 0 M 1 _ (fun i j => (Lib.cellsOf L M)[i]?.getD undef) (fun ho => ?_) ?_ ?_ ?_ ?_ ?_ ?_ ?_
 ·exact sm.fresh (Nat.le_refl _) ho
 ·show w.heap.size < (w.heap.push _).size; simp
 ·have : L.length ≤ 1000000 := by omega
  have h2 : 1000000 ≤ Cm := by decide
  simp only [List.length_map]; omega
 ·simpa using hlen
 ·intro e he; simp only [List.map_map, List.mem_map] at he; obtain ⟨_, _, rfl⟩ := he; rfl
 all_goals
  intro i e j c h1 h2; rw [List.getElem?_map, List.getElem?_map] at h1; cases hi : L[i]? with
  | none => rw [hi] at h1; cases h1
  | some b =>
   rw [hi] at h1; simp only [Option.map_some, Option.some.injEq] at h1; subst h1; have hil := (List.getElem?_eq_some_iff.1 hi).1; have hcell : (Lib.cellsOf L M)[i]? = some (.string b) := by
    simp only [Lib.cellsOf, List.getElem?_toArray]; rw [List.getElem?_append_left (by simpa using hil), List.getElem?_map, hi]; rfl
   cases j with
   | succ j => simp at h2
   | zero =>
    simp only [List.getElem?_cons_zero, Option.some.injEq] at h2; subst h2
    first
     | (show World.cell? (w.alloc _) ⟨w.heap.size, 0 + i * 1 + 0, none⟩ = _
        have e1 : 0 + i * 1 + 0 = i := by omega
        rw [e1]
        rw [hcell]
        exact (Qn w _ _ i).trans hcell)
     | (rw [hcell]; rfl)
     | (rw [hcell]
        exact .v _)
end Go.Idl
namespace Go.Idl
open Go Go.Proofs.Tryz Go.RowKit Go.Proofs Go.Shelf
variable {H : A2} {K : Aw → A2 → Prop}
@[go_sem] theorem lX {b : Bool} {t : TypeId} : O2 prog .neq 146 (N2 t b) = some (True, .v (.bool b)) := Sw underlying146 rfl
noncomputable def F65 (s t : List UInt8) : Option (List UInt8 × List UInt8 × Bool) := gd ((s.length : Int) < 4294967281) (some (Lib.cut s t))
theorem Vd (s t : List UInt8) (hV : VOK prog H) {r : List UInt8 × List UInt8 × Bool} (h : F65 s t = some r) (hK : K (.ret (.tu [.v (str r.1), .v (str r.2.1), .v (.bool r.2.2)])) H) : Ac prog 65 [.v (str s), .v (str t)] H K := by
 obtain ⟨h0, h⟩ := Af.1 h; cases h; exact Q3 Go.Proofs.Tryz.Xc rfl (by kernel_rfl) (by kernel_rfl) hV s t (by omega) hK
noncomputable def bN (s : List UInt8) : Option (Int × Bool) := gd ((s.length : Int) ≤ 281474976710656) (some (D4 s))
theorem XG (s : List UInt8) (hV : VOK prog H) {r : Int × Bool} (h : bN s = some r) (hK : K (.ret (.tu [.v (.int .i64 r.1), N2 238 r.2])) H) : Ac prog 141 [.v (str s)] H K := by
 obtain ⟨h0, h⟩ := Af.1 h; cases h; exact OD Go.Proofs.Tryz.Uk rfl rfl (by kernel_rfl) hV s (by omega) hK
noncomputable def F98 (s t : List UInt8) (n : Int) : Option (List (List UInt8)) := gd ((s.length : Int) < 4294967281) (gd (1 ≤ (t.length : Int)) (gd (1 ≤ n ∧ n ≤ 1000000) (some (Lib.splitN s t n.toNat))))
theorem bO (s t : List UInt8) (n : Int) (hV : VOK prog H) {r : List (List UInt8)} (h : F98 s t n = some r) (hK : K (.ret (.sl 1 (r.map fun x => [.v (str x)]))) H) : Ac prog 98 [.v (str s), .v (str t), .v (.int .i64 n)] H K := by
 obtain ⟨h0, h⟩ := Af.1 h; obtain ⟨h1, h⟩ := Af.1 h; obtain ⟨h2, h⟩ := Af.1 h; cases h; obtain ⟨m, rfl⟩ : ∃ m : Nat, n = (m : Int) := ⟨n.toNat, by omega⟩; exact LK Go.Proofs.Tryz.Xb rfl (by kernel_rfl) (by kernel_rfl) (by kernel_rfl) hV s t m (by omega) (by omega) (by omega) (by omega) hK
end Go.Idl
namespace Go.Idl
set_option maxHeartbeats 8000000
set_option pp.deepTerms false
set_option maxRecDepth 60000
open Go Go.Proofs.Tryz
structure Qo where
 fs : List UInt8
deriving DecidableEq
def Qo.zero : Qo := ⟨[]⟩
structure BC where
 AB : Qo
 Bi : Bool
deriving DecidableEq
def BC.zero : BC := ⟨Qo.zero, false⟩
noncomputable def SH (a0 : BC) (a1 : Int) : Option ((List UInt8) × BC) :=
 gd (0 ≤ a1 ∧ a1 ≤ 255) ((F65 a0.AB.fs ([UInt8.ofNat a1.toNat])).bind fun (x4 : (List UInt8) × (List UInt8) × Bool) => if a0.Bi = true then (some ((x4.1, (⟨(⟨x4.2.1⟩ : Qo), true⟩ : BC)))) else (some ((x4.1, (⟨(⟨x4.2.1⟩ : Qo), !x4.2.2⟩ : BC)))))
theorem NF {H : A2} {K : Aw → A2 → Prop} (a0 : BC) (a1 : Int) (ka0 : Nat) (Aq : H.obj ka0 = some (.cells ([.v (str a0.AB.fs), .v (.bool a0.Bi)]))) (hV : VOK prog H) {r : (List UInt8) × BC} (h : SH a0 a1 = some r) (hK : K (.ret (.v (str r.1))) (BJ H [(ka0, .cells ([.v (str r.2.AB.fs), .v (.bool r.2.Bi)]))])) : Ac prog 103 [.p ka0 0, .v (.int .u8 a1)] H K := by
 refine Ag (N := 38) func103 (by kernel_rfl) rfl (by kernel_rfl) (by kernel_rfl) fun cb hcb hw hbd hnb => ?_; clear hbd hnb; subst hcb; unfold SH at h; have Db : ka0 < H.next := Nat.lt_of_not_le fun q => by rw [hw _ q] at Aq; cases Aq
 refine wG ?_; refine A3 fun cb hc2 => ?_; refine Ay [8] [0, 1, 2, 3, 4, 5, 6, 7, 8, 9, 10, 11, 12, 13, 14, 15] (by kernel_rfl) (by kernel_rfl) (fun _ _ _ _ h => h) ?_; obtain ⟨g3, h⟩ := Af.1 h; refine sF Aq ?_; obtain ⟨x4, hx4, h⟩ := A4 h; refine BN.mkT (fun H0 => VOK prog H0) _ (by exact hV.of rfl) (fun H0 K0 hT hK => Vd a0.AB.fs ([UInt8.ofNat a1.toNat]) hT hx4 hK) ?_; refine sG ?_; subst hc2; refine A3 fun cb hc5 => ?_; refine vF Aq ?_; refine A6 h eA ?_ ?_
 ·intro c8 h; refine sF Aq ?_; subst hc5; refine wG ?_; obtain rfl := sI h; refine vS ?_; refine As (r' := .v (str x4.1)) (io1 ka0 (.cells ([.v (str x4.2.1), .v (.bool true)])) (by exact Au (Ext.AK (Ext.refl hw) ka0)) (by omega) (by simp -implicitDefEqProofs (disch := omega) [go_sem]) (by exact Bp)) rfl (.same (by exact nbA)) hK
 intro c8 h; simp (disch := omega) at c8; refine sF Aq ?_; subst hc5; refine wG ?_; obtain rfl := sI h; refine vS ?_; refine As (r' := .v (str x4.1)) (io1 ka0 (.cells ([.v (str x4.2.1), .v (.bool (!x4.2.2))])) (by exact Au (Ext.AK (Ext.refl hw) ka0)) (by omega) (by simp -implicitDefEqProofs (disch := omega) [go_sem]) (by exact Bp)) rfl (.same (by exact nbA)) hK
noncomputable def SI (a0 : BC) (a1 : List UInt8) (a2 : Int) : Option (Int × BC) :=
 (bN a1).bind fun (x3 : Int × Bool) => if x3.2 = true then (some ((0, (⟨a0.AB, true⟩ : BC)))) else (if x3.1 < 1 then (some ((0, (⟨a0.AB, true⟩ : BC)))) else (if a2 < x3.1 then (some ((0, (⟨a0.AB, true⟩ : BC)))) else ((F95 x3.1).bind fun (x12 : (List UInt8)) => if ¬ x12 = a1 then (some ((0, (⟨a0.AB, true⟩ : BC)))) else (some (x3.1, a0)))))
theorem Rl {H : A2} {K : Aw → A2 → Prop} (a0 : BC) (a1 : List UInt8) (a2 : Int) (ka0 : Nat) (Aq : H.obj ka0 = some (.cells ([.v (str a0.AB.fs), .v (.bool a0.Bi)]))) (hV : VOK prog H) {r : Int × BC} (h : SI a0 a1 a2 = some r) (hK : K (.ret (.v (.int .i64 r.1))) (BJ H [(ka0, .cells ([.v (str r.2.AB.fs), .v (.bool r.2.Bi)]))])) : Ac prog 104 [.p ka0 0, .v (str a1), .v (.int .i64 a2)] H K := by
 refine Ag (N := 35) func104 (by kernel_rfl) rfl (by kernel_rfl) (by kernel_rfl) fun cb hcb hw hbd hnb => ?_; clear hbd hnb; subst hcb; unfold SI at h; have Db : ka0 < H.next := Nat.lt_of_not_le fun q => by rw [hw _ q] at Aq; cases Aq
 refine wG ?_; refine A3 fun cb hc2 => ?_; refine vG ?_; obtain ⟨x3, hx3, h⟩ := A4 h; refine XG a1 (by exact hV.of rfl) hx3 ?_; refine sG ?_; subst hc2; refine A3 fun cb hc4 => ?_; refine A3 fun cb hc5 => ?_; refine vG ?_; refine A6 h eA ?_ ?_
 ·intro c19 h; refine sG ?_; subst hc5; refine Ao eA rfl ?_; refine wF Aq ?_; refine wG ?_; obtain rfl := sI h; refine vS ?_; refine As (r' := .v (.int .i64 0)) (io1 ka0 (.cells ([.v (str a0.AB.fs), .v (.bool true)])) (by exact Au (Ext.AK (Ext.refl hw) ka0)) (by omega) (by simp -implicitDefEqProofs (disch := omega) [go_sem]) (by exact Bp)) rfl (.same (by exact nbA)) hK
 intro c19 h; simp (disch := omega) at c19; refine sG ?_; refine A6 h rfl ?_ ?_
 ·intro c18 h; refine sG ?_; subst hc5; refine Ao eA rfl ?_; refine wF Aq ?_; refine wG ?_; obtain rfl := sI h; refine vS ?_; refine As (r' := .v (.int .i64 0)) (io1 ka0 (.cells ([.v (str a0.AB.fs), .v (.bool true)])) (by exact Au (Ext.AK (Ext.refl hw) ka0)) (by omega) (by simp -implicitDefEqProofs (disch := omega) [go_sem]) (by exact Bp)) rfl (.same (by exact nbA)) hK
 intro c18 h; simp (disch := omega) at c18; refine sG ?_; refine A6 h rfl ?_ ?_
 ·intro c17 h; refine sG ?_; subst hc5; refine Ao eA rfl ?_; refine wF Aq ?_; refine wG ?_; obtain rfl := sI h; refine vS ?_; refine As (r' := .v (.int .i64 0)) (io1 ka0 (.cells ([.v (str a0.AB.fs), .v (.bool true)])) (by exact Au (Ext.AK (Ext.refl hw) ka0)) (by omega) (by simp -implicitDefEqProofs (disch := omega) [go_sem]) (by exact Bp)) rfl (.same (by exact nbA)) hK
 intro c17 h; simp (disch := omega) at c17; refine sG ?_; obtain ⟨x12, hx12, h⟩ := A4 h; refine Ut x3.1 (by exact (VOK.of hV rfl).tok) hx12 ?_; refine sG ?_; subst hc5; refine Ab h eA rfl ?_ ?_
 ·intro c13 h; refine wF Aq ?_; refine wG ?_; obtain rfl := sI h; refine vS ?_; refine As (r' := .v (.int .i64 0)) (io1 ka0 (.cells ([.v (str a0.AB.fs), .v (.bool true)])) (by exact Au (Ext.AK (Ext.refl hw) ka0)) (by omega) (by simp -implicitDefEqProofs (disch := omega) [go_sem]) (by exact Bp)) rfl (.same (by exact nbA)) hK
 intro c13 h; simp (disch := omega) at c13; refine vO ?_; subst hc4; refine wG ?_; obtain rfl := sI h; refine vS ?_; refine As (r' := .v (.int .i64 x3.1)) (io1 ka0 (.cells ([.v (str a0.AB.fs), .v (.bool a0.Bi)])) (by exact Au (Ext.AK (Ext.refl hw) ka0)) (by omega) (by with_reducible assumption) (by exact Bp)) rfl (.same (by exact nbA)) hK
noncomputable def XH (a0 : BC) : Option ((List UInt8) × BC) :=
 (SH a0 32).bind fun (x3 : (List UInt8) × BC) => (SI x3.2 x3.1 200).bind fun (x4 : Int × BC) => if x4.2.Bi = true then (some (([], (⟨x4.2.AB, true⟩ : BC)))) else (if (x4.2.AB.fs.length : Int) ≤ x4.1 then (some (([], (⟨x4.2.AB, true⟩ : BC)))) else (gd (0 ≤ x4.1 ∧ x4.1 < x4.2.AB.fs.length) (if ¬ (((x4.2.AB.fs.getD x4.1.toNat 0).toNat : Int)) = 10 then (some (([], (⟨x4.2.AB, true⟩ : BC)))) else (gd (0 ≤ x4.1) (gd (x4.1 ≤ x4.2.AB.fs.length) (gd (0 ≤ (IntKind.i64.wrap (x4.1 + 1))) (gd (IntKind.i64.wrap (x4.1 + 1) ≤ x4.2.AB.fs.length) (some (((x4.2.AB.fs.take x4.1.toNat), (⟨(⟨x4.2.AB.fs.drop (IntKind.i64.wrap (x4.1 + 1)).toNat⟩ : Qo), x4.2.Bi⟩ : BC)))))))))))
theorem CY {H : A2} {K : Aw → A2 → Prop} (a0 : BC) (ka0 : Nat) (Aq : H.obj ka0 = some (.cells ([.v (str a0.AB.fs), .v (.bool a0.Bi)]))) (hV : VOK prog H) {r : (List UInt8) × BC} (h : XH a0 = some r) (hK : K (.ret (.v (str r.1))) (BJ H [(ka0, .cells ([.v (str r.2.AB.fs), .v (.bool r.2.Bi)]))])) : Ac prog 105 [.p ka0 0] H K := by
 refine Ag (N := 56) func105 (by kernel_rfl) rfl (by kernel_rfl) (by kernel_rfl) fun cb hcb hw hbd hnb => ?_; clear hbd hnb; subst hcb; unfold XH at h; have Db : ka0 < H.next := Nat.lt_of_not_le fun q => by rw [hw _ q] at Aq; cases Aq
 refine A3 fun cb hc1 => ?_; refine vcK ?_
 try simp -implicitDefEqProofs (disch := omega) [go_sem, Aq]
 subst hc1; refine A3 fun cb hc2 => ?_; refine vcK ?_
 try simp -implicitDefEqProofs (disch := omega) [go_sem, Aq]
 obtain ⟨x3, hx3, h⟩ := A4 h; refine Ac.eqA (args' := [.p ka0 0, .v (.int .u8 32)]) (by first | with_reducible rfl | (simp -implicitDefEqProofs (disch := omega) [go_sem, Aq] <;> omega)) (NF a0 32 ka0 (by first | with_reducible assumption | simp -implicitDefEqProofs (disch := omega) [go_sem, Aq]) (by first | exact hV.of rfl | exact hV.of ((Ext.AK (Ext.refl hw) ka0)).sn | exact hV.of (Ext.sn (H := H) (by exact Au (Ext.AK (Ext.refl hw) ka0))) | exact (VOK.of hV rfl).tok | exact (VOK.of hV ((Ext.AK (Ext.refl hw) ka0)).sn).tok | exact (VOK.of hV (Ext.sn (H := H) (by exact Au (Ext.AK (Ext.refl hw) ka0)))).tok) hx3 ?_)
 try simp -implicitDefEqProofs (disch := omega) [go_sem, Aq]
 obtain ⟨x4, hx4, h⟩ := A4 h; refine Ac.eqA (args' := [.p ka0 0, .v (str x3.1), .v (.int .i64 200)]) (by first | with_reducible rfl | (simp -implicitDefEqProofs (disch := omega) [go_sem, Aq] <;> omega)) (Rl x3.2 x3.1 200 ka0 (by first | with_reducible assumption | simp -implicitDefEqProofs (disch := omega) [go_sem, Aq]) (by first | exact hV.of rfl | exact hV.of ((Ext.AK (Ext.refl hw) ka0)).sn | exact hV.of (Ext.sn (H := H) (by exact Au (Ext.AK (Ext.refl hw) ka0))) | exact (VOK.of hV rfl).tok | exact (VOK.of hV ((Ext.AK (Ext.refl hw) ka0)).sn).tok | exact (VOK.of hV (Ext.sn (H := H) (by exact Au (Ext.AK (Ext.refl hw) ka0)))).tok) hx4 ?_)
 try simp -implicitDefEqProofs (disch := omega) [go_sem, Aq]
 subst hc2; refine A3 fun cb hc5 => ?_; refine A3 fun cb hc6 => ?_; refine vcK ?_
 try simp -implicitDefEqProofs (disch := omega) [go_sem, Aq]
 refine A6 h (by first | with_reducible rfl | (simp -implicitDefEqProofs (disch := omega) [go_sem, Aq] <;> omega)) ?_ ?_
 ·intro c23 h
  try simp (disch := omega) at c23
  try simp -implicitDefEqProofs (disch := omega) [go_sem, Aq]
  subst hc6; refine Ao (by first | with_reducible rfl | (simp -implicitDefEqProofs (disch := omega) [go_sem, Aq] <;> omega)) rfl ?_; refine A3 fun cb hc7 => ?_; refine vcK ?_
  try simp -implicitDefEqProofs (disch := omega) [go_sem, Aq]
  subst hc7; refine A3 fun cb hc8 => ?_; refine vcK ?_
  try simp -implicitDefEqProofs (disch := omega) [go_sem, Aq]
  subst hc8; refine vcK ?_; simp -implicitDefEqProofs only [go_sem]; have er := Option.some.inj h; subst er
  try simp -implicitDefEqProofs (disch := omega) [go_sem, Aq]
  refine As (r' := .v (str [])) (io1 ka0 (.cells ([.v (str x4.2.AB.fs), .v (.bool true)])) (by exact Au (Ext.AK (Ext.refl hw) ka0)) (by omega) (by first | with_reducible assumption | rfl | simp -implicitDefEqProofs (disch := omega) [go_sem, Aq]) (by first | exact nbA | exact Bp | exact C5)) (by first | with_reducible rfl | (simp -implicitDefEqProofs (disch := omega) [go_sem, Aq] <;> omega)) (.same (by first | exact nbA | exact Bp | exact C5)) hK
 ·intro c23 h
  try simp (disch := omega) at c23
  try simp -implicitDefEqProofs (disch := omega) [go_sem, Aq]
  refine A6 h (by first | with_reducible rfl | (simp -implicitDefEqProofs (disch := omega) [go_sem, Aq] <;> omega)) ?_ ?_
  ·intro c22 h
   try simp (disch := omega) at c22
   try simp -implicitDefEqProofs (disch := omega) [go_sem, Aq]
   subst hc6; refine Ao (by first | with_reducible rfl | (simp -implicitDefEqProofs (disch := omega) [go_sem, Aq] <;> omega)) rfl ?_; refine A3 fun cb hc9 => ?_; refine vcK ?_
   try simp -implicitDefEqProofs (disch := omega) [go_sem, Aq]
   subst hc9; refine A3 fun cb hc10 => ?_; refine vcK ?_
   try simp -implicitDefEqProofs (disch := omega) [go_sem, Aq]
   subst hc10; refine vcK ?_; simp -implicitDefEqProofs only [go_sem]; have er := Option.some.inj h; subst er
   try simp -implicitDefEqProofs (disch := omega) [go_sem, Aq]
   refine As (r' := .v (str [])) (io1 ka0 (.cells ([.v (str x4.2.AB.fs), .v (.bool true)])) (by exact Au (Ext.AK (Ext.refl hw) ka0)) (by omega) (by first | with_reducible assumption | rfl | simp -implicitDefEqProofs (disch := omega) [go_sem, Aq]) (by first | exact nbA | exact Bp | exact C5)) (by first | with_reducible rfl | (simp -implicitDefEqProofs (disch := omega) [go_sem, Aq] <;> omega)) (.same (by first | exact nbA | exact Bp | exact C5)) hK
  ·intro c22 h
   try simp (disch := omega) at c22
   obtain ⟨g11, h⟩ := Af.1 h
   try simp (disch := omega) at g11
   try simp -implicitDefEqProofs (disch := omega) [go_sem, Aq]
   subst hc6; refine Ab h (by first | with_reducible rfl | (simp -implicitDefEqProofs (disch := omega) [go_sem, Aq] <;> omega)) rfl ?_ ?_
   ·intro c12 h
    try simp (disch := omega) at c12
    refine A3 fun cb hc13 => ?_; refine vcK ?_
    try simp -implicitDefEqProofs (disch := omega) [go_sem, Aq]
    subst hc13; refine A3 fun cb hc14 => ?_; refine vcK ?_
    try simp -implicitDefEqProofs (disch := omega) [go_sem, Aq]
    subst hc14; refine vcK ?_; simp -implicitDefEqProofs only [go_sem]; have er := Option.some.inj h; subst er
    try simp -implicitDefEqProofs (disch := omega) [go_sem, Aq]
    refine As (r' := .v (str [])) (io1 ka0 (.cells ([.v (str x4.2.AB.fs), .v (.bool true)])) (by exact Au (Ext.AK (Ext.refl hw) ka0)) (by omega) (by first | with_reducible assumption | rfl | simp -implicitDefEqProofs (disch := omega) [go_sem, Aq]) (by first | exact nbA | exact Bp | exact C5)) (by first | with_reducible rfl | (simp -implicitDefEqProofs (disch := omega) [go_sem, Aq] <;> omega)) (.same (by first | exact nbA | exact Bp | exact C5)) hK
   ·intro c12 h
    try simp (disch := omega) at c12
    refine vcK ?_; simp -implicitDefEqProofs only [go_sem]; subst hc5; refine A3 fun cb hc15 => ?_; refine vcK ?_; obtain ⟨g16, h⟩ := Af.1 h
    try simp (disch := omega) at g16
    obtain ⟨g17, h⟩ := Af.1 h
    try simp (disch := omega) at g17
    try simp -implicitDefEqProofs (disch := omega) [go_sem, Aq]
    subst hc15; refine A3 fun cb hc18 => ?_; refine vcK ?_; obtain ⟨g19, h⟩ := Af.1 h
    try simp (disch := omega) at g19
    obtain ⟨g20, h⟩ := Af.1 h
    try simp (disch := omega) at g20
    try simp -implicitDefEqProofs (disch := omega) [go_sem] at g19
    try simp -implicitDefEqProofs (disch := omega) [go_sem] at g20
    try simp -implicitDefEqProofs (disch := omega) [go_sem, Aq]
    subst hc18; refine A3 fun cb hc21 => ?_; refine vcK ?_
    try simp -implicitDefEqProofs (disch := omega) [go_sem, Aq]
    subst hc21; refine vcK ?_; simp -implicitDefEqProofs only [go_sem]; have er := Option.some.inj h; subst er
    try simp -implicitDefEqProofs (disch := omega) [go_sem, Aq]
    refine As (r' := .v (str (x4.2.AB.fs.take x4.1.toNat))) (io1 ka0 (.cells ([.v (str (x4.2.AB.fs.drop (IntKind.i64.wrap (x4.1 + 1)).toNat)), .v (.bool x4.2.Bi)])) (by exact Au (Ext.AK (Ext.refl hw) ka0)) (by omega) (by first | with_reducible assumption | rfl | simp -implicitDefEqProofs (disch := omega) [go_sem, Aq]) (by first | exact nbA | exact Bp | exact C5)) (by first | with_reducible rfl | (simp -implicitDefEqProofs (disch := omega) [go_sem, Aq] <;> omega)) (.same (by first | exact nbA | exact Bp | exact C5)) hK
noncomputable def J_ (a0 : List UInt8) (a1 : Int) (v5 : Int) : Option (Int ⊕ (Unit ⊕ ((List UInt8) × (List UInt8) × Bool))) :=
 if v5 < (a0.length : Int) then (gd (0 ≤ v5 ∧ v5 < a0.length) (if (((a0.getD v5.toNat 0).toNat : Int)) = a1 then (gd (0 ≤ v5) (gd (v5 ≤ a0.length) (gd (0 ≤ (IntKind.i64.wrap (v5 + 1))) (gd (IntKind.i64.wrap (v5 + 1) ≤ a0.length) (some (.inr (.inr (((a0.take v5.toNat), a0.drop (IntKind.i64.wrap (v5 + 1)).toNat, true))))))))) else (some (.inl (IntKind.i64.wrap (v5 + 1)))))) else (some (.inr (.inl ())))
noncomputable def FW (v4 : Int) (v5 : List UInt8) : Option ((Int × (List UInt8)) ⊕ (List UInt8)) :=
 gd (0 ≤ (IntKind.u8.wrap (IntKind.i64.wrap (48 + (v4.tmod 10)))) ∧ (IntKind.u8.wrap (IntKind.i64.wrap (48 + (v4.tmod 10)))) ≤ 255) (gd ((([UInt8.ofNat (IntKind.u8.wrap (IntKind.i64.wrap (48 + (v4.tmod 10)))).toNat]).length : Int) + v5.length ≤ 9223372036854775807) (if (IntKind.i64.wrap (v4.tdiv 10)) = 0 then (some (.inr (([UInt8.ofNat (IntKind.u8.wrap (IntKind.i64.wrap (48 + (v4.tmod 10)))).toNat]) ++ v5))) else (some (.inl ((IntKind.i64.wrap (v4.tdiv 10), ([UInt8.ofNat (IntKind.u8.wrap (IntKind.i64.wrap (48 + (v4.tmod 10)))).toNat]) ++ v5))))))
noncomputable def SJ (a0 : Int) : Option (List UInt8) :=
 (AE (fun (s : Int × (List UInt8)) => FW s.1 s.2) (a0, [])).bind fun (q : (List UInt8)) => some q
theorem Rm {H : A2} {K : Aw → A2 → Prop} (a0 : Int) {r : (List UInt8)} (h : SJ a0 = some r) (hK : K (.ret (.v (str r))) H) : Ac prog 112 [.v (.int .i64 a0)] H K := by
 refine Ag (N := 17) func112 (by kernel_rfl) rfl (by kernel_rfl) (by kernel_rfl) fun cb hcb hw hbd hnb => ?_; clear hbd hnb; subst hcb; unfold SJ at h; refine wG ?_; refine wG ?_; obtain ⟨y3, hl3q, hk3⟩ := A4 h; refine Ak ?_; refine AA (fun (s : Int × (List UInt8)) tm' H' => H = H' ∧ tm' 0 = .v (.int .i64 s.1) ∧ tm' 3 = .v (str s.2)) hl3q ?_ ?_
 ·exact sm
 rintro I3 hI3 ⟨v4, v5⟩ x3 tm3 H3 ⟨rfl, SE, Qh⟩ h hret3
 replace h : FW v4 v5 = some x3 := h; unfold FW at h; refine Ak ?_; refine A3 fun cb hc6 => ?_; obtain ⟨g7, h⟩ := Af.1 h; obtain ⟨g8, h⟩ := gS h; refine v0 ?_; simp -implicitDefEqProofs (disch := omega) [go_sem] at g7; refine sF (nd SE Qh) ?_; subst hc6; refine wF SE ?_; refine wG ?_; refine Ab h eA rfl ?_ ?_
 ·intro c11 h; refine wG ?_; refine vO ?_; obtain rfl := sI h; obtain rfl := hret3 _ rfl; replace h : some (([UInt8.ofNat (IntKind.u8.wrap (IntKind.i64.wrap (48 + (v4.tmod 10)))).toNat]) ++ v5) = some r := hk3; obtain rfl := sI h; refine sG ?_; exact Av (.refl hw) hK
 intro c11 h; refine vO ?_; obtain rfl := sI h; refine An hI3 ((IntKind.i64.wrap (v4.tdiv 10), ([UInt8.ofNat (IntKind.u8.wrap (IntKind.i64.wrap (48 + (v4.tmod 10)))).toNat]) ++ v5)) ?_; exact sm
noncomputable def NG  : Option Int :=
 some (-1)
noncomputable def FX (a0 : List (List UInt8)) (a1 : List UInt8) (v5 : Int) : Option (Int ⊕ (Unit ⊕ Int)) :=
 if v5 < (a0.length : Int) then (gd (0 ≤ v5 ∧ v5 < a0.length) (if a1 = (a0.getD v5.toNat []) then (some (.inr (.inr v5))) else (some (.inl (IntKind.i64.wrap (v5 + 1)))))) else (some (.inr (.inl ())))
noncomputable def XI (a0 : List (List UInt8)) (a1 : List UInt8) : Option Int :=
 (AE (fun (s : Int) => FX a0 a1 s) 0).bind fun y => Sum.elim (fun (e : Unit) => NG) (fun (q : Int) => some q) y
theorem XJ {H : A2} {K : Aw → A2 → Prop} (a0 : List (List UInt8)) (a1 : List UInt8) {r : Int} (h : XI a0 a1 = some r) (hK : K (.ret (.v (.int .i64 r))) H) : Ac prog 140 [.sl 1 (a0.map fun x => [.v (str x)]), .v (str a1)] H K := by
 refine Ag (N := 19) func140 (by kernel_rfl) rfl (by kernel_rfl) (by kernel_rfl) fun cb hcb hw hbd hnb => ?_; clear hbd hnb; subst hcb; unfold XI at h; refine wG ?_; refine A3 fun cb hc2 => ?_; refine wG ?_; obtain ⟨y4, hl4q, hk4⟩ := A4 h; refine Az (fun tm' H' => .inl () = y4 ∧ H = H') ?_ fun cb hc4 => ?_
 ·rintro tm4e H4e ⟨rfl, rfl⟩
  have h : NG = some r := hk4; unfold NG at h; simp -implicitDefEqProofs only [go_sem]; subst hc2; refine wG ?_; obtain rfl := sI h; refine vS ?_; exact Av (.refl hw) hK
 refine Ak ?_; refine AA (fun (s : Int) tm' H' => H = H' ∧ tm' 0 = .sl 1 (a0.map fun x => [.v (str x)]) ∧ tm' 1 = .v (str a1) ∧ tm' 7 = .v (.int .i64 (a0.length : Int)) ∧ tm' 8 = .v (.int .i64 s)) hl4q ?_ ?_
 ·exact sm
 rintro I4 hI4 v5 x4 tm4 H4 ⟨rfl, Bh, K_, UG, Q7⟩ h hret4
 replace h : FX a0 a1 v5 = some x4 := h; unfold FX at h; refine wF (nd UG Q7) ?_; refine A3 fun cb hc8 => ?_; refine Ab h eA rfl ?_ ?_
 ·intro c9 h; refine vO ?_; subst hc8; refine A3 fun cb hc10 => ?_; refine Ak ?_; refine wF Q7 ?_; obtain ⟨g13, h⟩ := Af.1 h; refine wF (nd Bh K_) ?_; refine Ab h eA rfl ?_ ?_
  ·intro c14 h; simp (disch := omega) at c14; refine wG ?_; refine vO ?_; obtain rfl := sI h; obtain rfl := hret4 _ rfl; replace h : some v5 = some r := hk4; obtain rfl := sI h; refine sG ?_; exact Av (.refl hw) hK
  intro c14 h; simp (disch := omega) at c14; refine vO ?_; subst hc10; refine vF Q7 ?_; obtain rfl := sI h; refine An hI4 (IntKind.i64.wrap (v5 + 1)) ?_; exact smF (nd Bh (nd K_ UG))
 intro c9 h; simp (disch := omega) at c9; refine vO ?_; obtain rfl := sI h; have hy4 := hret4 _ rfl; refine hc4 _ _ ?_; refine .same ⟨hy4, rfl⟩
noncomputable def XK  : Option ((List (List UInt8))) :=
 some ([[102, 117, 108, 108], [103, 105, 118, 101, 110], [102, 97, 109, 105, 108, 121], [111, 114, 103], [116, 105, 116, 108, 101], [110, 111, 116, 101], [109, 97, 105, 108], [112, 104, 111, 110, 101]])
theorem XL {H : A2} {K : Aw → A2 → Prop}  {r : (List (List UInt8))} (h : XK  = some r) (hK : K (.ret (.sl 1 (r.map fun x => [.v (str x)]))) H) : Ac prog 110 [] H K := by
 refine Ag (N := 2) func110 (by kernel_rfl) rfl (by kernel_rfl) (by kernel_rfl) fun cb hcb hw hbd hnb => ?_; clear hbd hnb; subst hcb; unfold XK at h; refine wG ?_; refine wG ?_; obtain rfl := sI h; refine vS ?_; exact Av (.refl hw) hK
end Go.Idl
namespace Go.Idl
open Go
theorem AS {i : Nat} (h : i < 9223372036854775807) : IntKind.i64.wrap ((i : Int) + 1) = ((i + 1 : Nat) : Int) := by
 rw [wrap_i64 (by omega) (by omega)]; rfl
theorem Dj {ρ : Type} {step : Int → Option (Int ⊕ ρ)} {Post : ρ → Prop} (n : Nat) (Inv : Nat → Prop) (h0 : Inv 0)
    (hs : ∀ i : Nat, i < n → Inv i → (step i = some (.inl ((i + 1 : Nat) : Int)) ∧ Inv (i + 1)) ∨ ∃ r, step i = some (.inr r) ∧ Post r)
    (hf : Inv n → ∃ r, step n = some (.inr r) ∧ Post r) : ∃ r, AE step 0 = some r ∧ Post r := by
 refine Eb (fun s : Int => ∃ i : Nat, i ≤ n ∧ s = (i : Int) ∧ Inv i) (fun s : Int => n - s.toNat) ?_ ⟨0, Nat.zero_le _, rfl, h0⟩
 rintro s ⟨i, hi, rfl, hI⟩
 by_cases h : i < n
 ·rcases hs i h hI with ⟨h1, h2⟩ | h1
  ·exact .inl ⟨_, h1, ⟨i + 1, h, rfl, h2⟩, by simp; omega⟩
  ·exact .inr h1
 ·have e : i = n := by omega
  subst e; exact .inr (hf hI)
theorem Qq {σ ρ : Type} {step : σ × Int → Option ((σ × Int) ⊕ ρ)} {Post : ρ → Prop} (n : Nat) (Inv : Nat → σ → Prop) {a : σ} (h0 : Inv 0 a)
    (hs : ∀ (i : Nat) (a : σ), i < n → Inv i a → (∃ a', step (a, (i : Int)) = some (.inl (a', ((i + 1 : Nat) : Int))) ∧ Inv (i + 1) a') ∨ ∃ r, step (a, (i : Int)) = some (.inr r) ∧ Post r)
    (hf : ∀ a, Inv n a → ∃ r, step (a, (n : Int)) = some (.inr r) ∧ Post r) : ∃ r, AE step (a, 0) = some r ∧ Post r := by
 refine Eb (fun s : σ × Int => ∃ i : Nat, i ≤ n ∧ s.2 = (i : Int) ∧ Inv i s.1) (fun s : σ × Int => n - s.2.toNat) ?_ ⟨0, Nat.zero_le _, rfl, h0⟩
 rintro ⟨a, s⟩ ⟨i, hi, hs2, hI⟩
 simp only at hs2 hI; subst hs2; by_cases h : i < n
 ·rcases hs i a h hI with ⟨a', h1, h2⟩ | h1
  ·exact .inl ⟨_, h1, ⟨i + 1, h, rfl, h2⟩, by simp; omega⟩
  ·exact .inr h1
 ·have e : i = n := by omega
  subst e; exact .inr (hf a hI)
theorem Qr {σ ρ : Type} {step : Int × σ → Option ((Int × σ) ⊕ ρ)} {Post : ρ → Prop} (n : Nat) (Inv : Nat → σ → Prop) {a : σ} (h0 : Inv 0 a)
    (hs : ∀ (i : Nat) (a : σ), i < n → Inv i a → (∃ a', step ((i : Int), a) = some (.inl (((i + 1 : Nat) : Int), a')) ∧ Inv (i + 1) a') ∨ ∃ r, step ((i : Int), a) = some (.inr r) ∧ Post r)
    (hf : ∀ a, Inv n a → ∃ r, step ((n : Int), a) = some (.inr r) ∧ Post r) : ∃ r, AE step (0, a) = some r ∧ Post r := by
 refine Eb (fun s : Int × σ => ∃ i : Nat, i ≤ n ∧ s.1 = (i : Int) ∧ Inv i s.2) (fun s : Int × σ => n - s.1.toNat) ?_ ⟨0, Nat.zero_le _, rfl, h0⟩
 rintro ⟨s, a⟩ ⟨i, hi, hs2, hI⟩
 simp only at hs2 hI; subst hs2; by_cases h : i < n
 ·rcases hs i a h hI with ⟨a', h1, h2⟩ | h1
  ·exact .inl ⟨_, h1, ⟨i + 1, h, rfl, h2⟩, by simp; omega⟩
  ·exact .inr h1
 ·have e : i = n := by omega
  subst e; exact .inr (hf a hI)
theorem getD_some {α : Type} {l : List α} {i : Nat} (h : i < l.length) (d : α) : l.getD i d = l[i] := by simp [h]
end Go.Idl
namespace Go.Idl
open Go
def CD {α ρ : Type} (f : Nat → α → Option ρ) (d : ρ) : Nat → List α → ρ
  | _, [] => d
  | i, x :: l => match f i x with
    | none => CD f d (i + 1) l
    | some r => r
def NH {α σ ρ : Type} (f : Nat → σ → α → σ ⊕ ρ) (fin : σ → ρ) : Nat → σ → List α → ρ
  | _, a, [] => fin a
  | i, a, x :: l => match f i a x with
    | .inl a' => NH f fin (i + 1) a' l
    | .inr r => r
theorem Ce {α ρ : Type} {f : Nat → α → Option ρ} {d : ρ} {i : Nat} {x : α} {l : List α} : CD f d i (x :: l) = match f i x with
    | none => CD f d (i + 1) l
    | some r => r := rfl
theorem Mi {α σ ρ : Type} {f : Nat → σ → α → σ ⊕ ρ} {fin : σ → ρ} {i : Nat} {a : σ} {x : α} {l : List α} : NH f fin i a (x :: l) = match f i a x with
    | .inl a' => NH f fin (i + 1) a' l
    | .inr r => r := rfl
theorem CQ {α ρ : Type} (l : List α) {step : Int → Option (Int ⊕ ρ)} (f : Nat → α → Option ρ) (d : ρ) (hl : l.length ≤ 1000000000)
    (hs : ∀ (i : Nat) (h : i < l.length), step (i : Int) = some (match f i l[i] with | none => .inl (IntKind.i64.wrap ((i : Int) + 1)) | some r => .inr r))
    (hf : step (l.length : Int) = some (.inr d)) : AE step 0 = some (CD f d 0 l) := by
 obtain ⟨r, h1, h2⟩ := Dj (step := step) (Post := fun r => r = CD f d 0 l) l.length (fun i => CD f d i (l.drop i) = CD f d 0 l) (by simp)
  (fun i hi hI => by
    rw [hs i hi]
    rw [List.drop_eq_getElem_cons hi] at hI
    rw [Ce] at hI
    cases hfi : f i l[i] with
    | none =>
      rw [hfi] at hI
      rw [AS (by omega)]
      exact .inl ⟨rfl, hI⟩
    | some r =>
      rw [hfi] at hI
      exact .inr ⟨r, rfl, hI⟩)
  (fun hI => ⟨d, hf, by rw [List.drop_length] at hI; exact hI⟩)
 rw [h1, h2]
theorem SK {α σ ρ : Type} (l : List α) {step : σ × Int → Option ((σ × Int) ⊕ ρ)} (f : Nat → σ → α → σ ⊕ ρ) (fin : σ → ρ) (Inv : Nat → σ → Prop) {a : σ} (hl : l.length ≤ 1000000000) (h0 : Inv 0 a)
    (hs : ∀ (i : Nat) (h : i < l.length) (a : σ), Inv i a → step (a, (i : Int)) = some (match f i a l[i] with | .inl a' => .inl (a', IntKind.i64.wrap ((i : Int) + 1)) | .inr r => .inr r))
    (hn : ∀ (i : Nat) (h : i < l.length) (a a' : σ), Inv i a → f i a l[i] = .inl a' → Inv (i + 1) a')
    (hf : ∀ a, Inv l.length a → step (a, (l.length : Int)) = some (.inr (fin a))) : AE step (a, 0) = some (NH f fin 0 a l) := by
 obtain ⟨r, h1, h2⟩ := Qq (step := step) (Post := fun r => r = NH f fin 0 a l) l.length (fun i a' => Inv i a' ∧ NH f fin i a' (l.drop i) = NH f fin 0 a l) (a := a) ⟨h0, by simp⟩
  (fun i a' hi hI => by
    obtain ⟨hI, hR⟩ := hI
    rw [hs i hi a' hI]
    rw [List.drop_eq_getElem_cons hi] at hR
    rw [Mi] at hR
    cases hfi : f i a' l[i] with
    | inl a2 =>
      rw [hfi] at hR
      rw [AS (by omega)]
      exact .inl ⟨a2, rfl, hn i hi a' a2 hI hfi, hR⟩
    | inr r =>
      rw [hfi] at hR
      exact .inr ⟨r, rfl, hR⟩)
  (fun a' hI => ⟨_, hf a' hI.1, by have := hI.2; rw [List.drop_length] at this; exact this⟩)
 rw [h1, h2]
theorem IX {α ρ : Type} (p : α → Bool) (bad good : ρ) : ∀ (l : List α) (i : Nat), CD (fun _ x => if p x = true then none else some bad) good i l = if l.all p = true then good else bad
  | [], _ => by simp [CD]
  | x :: l, i => by
    unfold CD
    by_cases h : p x = true
    · rw [if_pos h]
      simp only [IX p bad good l (i + 1), List.all_cons, h, Bool.true_and]
    · rw [if_neg h]
      have : (List.all (x :: l) p) = false := by simp [List.all_cons, Bool.eq_false_iff.2 h]
      simp [this]
end Go.Idl
namespace Go.Idl
open Go Go.Lib
def B7 : List UInt8 → UInt8 → Option (List UInt8 × List UInt8)
  | [], _ => none
  | b :: s, x => if b = x then some ([], s) else (B7 s x).map fun p => (b :: p.1, p.2)
theorem Bf {x : UInt8} : ∀ {s a b : List UInt8}, B7 s x = some (a, b) ↔ s = a ++ x :: b ∧ x ∉ a
  | [], a, b => by simp [B7]
  | c :: s, a, b => by
    unfold B7
    by_cases h : c = x
    · subst h
      rw [if_pos rfl]
      constructor
      · rintro h; cases h; simp
      · rintro ⟨h1, h2⟩
        cases a with
        | nil => simp at h1; simp [h1]
        | cons d a => simp at h1; exact absurd (by simp [h1.1]) h2
    · rw [if_neg h]
      constructor
      · intro h'
        obtain ⟨⟨a', b'⟩, h1, h2⟩ := Option.map_eq_some_iff.1 h'
        cases h2
        obtain ⟨h3, h4⟩ := Bf.1 h1
        exact ⟨by simp [h3], by simp [h4, Ne.symm h]⟩
      · rintro ⟨h1, h2⟩
        cases a with
        | nil => simp at h1; exact absurd h1.1 h
        | cons d a =>
          simp at h1 h2
          rw [Bf.2 ⟨h1.2, h2.2⟩, h1.1]
          rfl
theorem SL {x : UInt8} : ∀ {s : List UInt8}, B7 s x = none ↔ x ∉ s
  | [] => by simp [B7]
  | c :: s => by
    unfold B7
    by_cases h : c = x
    · subst h; simp
    · rw [if_neg h]
      simp [SL (s := s), Ne.symm h]
theorem Fv {x : UInt8} {s a b : List UInt8} (h : B7 s x = some (a, b)) : a.length + b.length + 1 = s.length := by
 rw [(Bf.1 h).1]; simp; omega
theorem index_one (x : UInt8) : ∀ s : List UInt8, index s [x] = match B7 s x with | some p => (p.1.length : Int) | none => -1
  | [] => by simp [index, B7]
  | b :: s => by
    have ih := index_one x s
    unfold index B7
    by_cases h : b = x
    · subst h
      simp [List.isPrefixOf]
    · rw [if_neg h]
      have : ¬ x = b := fun e => h e.symm
      simp only [List.isPrefixOf, Bool.and_true, beq_iff_eq, if_neg this, ih]
      cases hc : B7 s x with
      | none => simp
      | some p =>
        have : ¬ ((p.1.length : Int) == -1) = true := by simp
        simp [this]
theorem Ro (s : List UInt8) (x : UInt8) : Lib.cut s [x] = match B7 s x with | some p => (p.1, p.2, true) | none => (s, [], false) := by
 unfold Lib.cut; rw [index_one]; cases h : B7 s x with
 | none => simp
 | some p =>
  obtain ⟨a, b⟩ := p; obtain ⟨h1, _⟩ := Bf.1 h; simp only; rw [if_pos (by omega)]; subst h1; simp
theorem Gq {c : UInt8} {d : Nat} : digitVal c = some d ↔ 48 ≤ c.toNat ∧ c.toNat ≤ 57 ∧ d = c.toNat - 48 := by
 unfold digitVal; split
 ·rename_i h; simp; constructor
  ·rintro rfl; exact ⟨h.1, h.2, rfl⟩
  ·rintro ⟨_, _, rfl⟩; rfl
 ·rename_i h; simp; omega
theorem Fw : ∀ (l : List UInt8) (acc : Nat) (c : UInt8), decFrom acc (l ++ [c]) = (decFrom acc l).bind fun n => (digitVal c).map fun d => n * 10 + d
  | [], acc, c => by
    simp only [List.nil_append, decFrom]
    cases digitVal c <;> simp
  | b :: l, acc, c => by
    simp only [List.cons_append, decFrom]
    cases digitVal b with
    | none => simp
    | some d => simp [Fw l]
theorem Qs {d : Nat} (h : d < 10) : digitVal (UInt8.ofNat (48 + d)) = some d := by
 have e : (UInt8.ofNat (48 + d)).toNat = 48 + d := by simp [UInt8.toNat_ofNat']; omega
 exact Gq.2 ⟨by omega, by omega, by omega⟩
theorem Fx (n : Nat) : decFrom 0 (decDigits n) = some n := by
 induction n using Nat.strongRecOn with
 | _ n ih =>
  unfold decDigits; split
  ·rename_i h; have := Fw [] 0 (UInt8.ofNat (48 + n)); simp only [List.nil_append] at this; rw [this, Qs h]; simp [decFrom]
  ·rename_i h; rw [Fw, ih (n / 10) (by omega), Qs (Nat.mod_lt _ (by omega))]; simp; omega
theorem NI (n : Nat) : decDigits n ≠ [] := by
 unfold decDigits; split <;> simp
theorem Qt (n : Nat) : decNat (decDigits n) = some n := by
 unfold decNat; rw [if_neg (by simp [NI]), Fx]
theorem XM {n m : Nat} (h : decDigits n = decDigits m) : n = m := by
 have h1 := Fx n; rw [h, Fx] at h1; exact (Option.some.inj h1).symm
theorem IY (n : Nat) : ∀ c, c ∈ decDigits n → 48 ≤ c.toNat ∧ c.toNat ≤ 57 := by
 induction n using Nat.strongRecOn with
 | _ n ih =>
  have one : ∀ d, d < 10 → 48 ≤ (UInt8.ofNat (48 + d)).toNat ∧ (UInt8.ofNat (48 + d)).toNat ≤ 57 := fun d hd => by
   obtain ⟨h1, h2, _⟩ := Gq.1 (Qs hd); exact ⟨h1, h2⟩
  intro c hc; unfold decDigits at hc; split at hc
  ·rename_i h; rw [List.mem_singleton.1 hc]; exact one n h
  ·rename_i h; rcases List.mem_append.1 hc with hc | hc
   ·exact ih (n / 10) (by omega) c hc
   ·rw [List.mem_singleton.1 hc]; exact one _ (Nat.mod_lt _ (by omega))
theorem GS (n k : Nat) (h : n < 10 ^ (k + 1)) : (decDigits n).length ≤ k + 1 := by
 induction k generalizing n with
 | zero => rw [decDigits, dif_pos (by simpa using h)]; simp
 | succ k ih =>
  rw [decDigits]; split
  ·simp
  ·have := ih (n / 10) (by rw [Nat.pow_succ] at h; omega); simp; omega
theorem Ve (n : Nat) (h : n < 1000000000000000000) : D4 (decDigits n) = ((n : Int), false) := by
 have hl : (decDigits n).length ≤ 18 := GS n 17 (by simpa using h); have ha : atoi (decDigits n) = some (n : Int) := by
  have h1 := Qt n; have h2 := IY n; cases hd : decDigits n with
  | nil => exact absurd hd (NI n)
  | cons b r =>
   rw [hd] at h1 h2; have hb := h2 b (by simp); have q1 : (b == 45) = false := by simp; rintro rfl; simp at hb
   have q2 : (b == 43) = false := by simp; rintro rfl; simp at hb
   unfold atoi; simp only [q1, q2, Bool.false_eq_true, if_false, h1]; rfl
 unfold D4; rw [atoiAll_short _ hl, ha]; rfl
noncomputable def HY (s : List UInt8) (m : Nat) : Option Nat := by
  classical exact if h : ∃ n, 1 ≤ n ∧ n ≤ m ∧ decDigits n = s then some h.choose else none
theorem Cj {s : List UInt8} {m n : Nat} : HY s m = some n ↔ 1 ≤ n ∧ n ≤ m ∧ decDigits n = s := by
 unfold HY; split
 ·rename_i h; have hc := h.choose_spec; constructor
  ·intro e; rw [← Option.some.inj e]; exact hc
  ·rintro ⟨_, _, h3⟩
   rw [XM (hc.2.2.trans h3.symm)]
 ·rename_i h; constructor
  ·intro e; cases e
  ·intro e; exact absurd ⟨n, e⟩ h
theorem SM {s : List UInt8} {m : Nat} (h : ∀ n, 1 ≤ n → n ≤ m → decDigits n ≠ s) : HY s m = none := by
 cases e : HY s m with
 | none => rfl
 | some n =>
  obtain ⟨h1, h2, h3⟩ := Cj.1 e; exact absurd h3 (h n h1 h2)
end Go.Idl
namespace Go.Idl
open Go Go.Lib
abbrev C0 := List UInt8
noncomputable def NJ (m : Nat) (s : C0) : Option (C0 × C0) := (B7 s 32).bind fun p => (HY p.1 m).bind fun n => if n < p.2.length ∧ p.2.getD n 0 = 10 then some (p.2.take n, p.2.drop (n + 1)) else none
noncomputable def EK (m : Nat) : Nat → C0 → Option (List C0 × C0)
  | 0, s => some ([], s)
  | n + 1, s => (NJ m s).bind fun p => (EK m n p.2).map fun q => (p.1 :: q.1, q.2)
theorem Vf {m : Nat} {s : C0} {p : C0 × C0} (h : NJ m s = some p) : p.2.length < s.length := by
 obtain ⟨⟨a, b⟩, h1, h⟩ := Option.bind_eq_some_iff.1 h; obtain ⟨n, h2, h⟩ := Option.bind_eq_some_iff.1 h; have := Fv h1; split at h
 ·cases h; simp; omega
 ·cases h
theorem SN {m n : Nat} {s : C0} {p : List C0 × C0} (h : EK m n s = some p) : p.2.length ≤ s.length ∧ p.1.length = n := by
 induction n generalizing s p with
 | zero => cases h; simp
 | succ n ih =>
  obtain ⟨q, h1, h⟩ := Option.bind_eq_some_iff.1 h; obtain ⟨r, h2, rfl⟩ := Option.map_eq_some_iff.1 h; have := Vf h1; have := ih h2; simp; omega
def GU (v : C0) : C0 := decDigits v.length ++ 32 :: v ++ [10]
theorem SO (m : Nat) (v rest : C0) (h1 : 1 ≤ v.length) (h2 : v.length ≤ m) : NJ m (GU v ++ rest) = some (v, rest) := by
 have e : GU v ++ rest = decDigits v.length ++ 32 :: (v ++ 10 :: rest) := by simp [GU]
 have hn : (32 : UInt8) ∉ decDigits v.length := fun h => by have := IY _ _ h; simp at this
 unfold NJ; rw [e, Bf.2 ⟨rfl, hn⟩]; simp only [Option.bind_some]; rw [Cj.2 ⟨h1, h2, rfl⟩]; simp
theorem Lb (m : Nat) (rest : C0) : ∀ (l : List C0), (∀ v, v ∈ l → 1 ≤ v.length ∧ v.length ≤ m) → EK m l.length (l.flatMap GU ++ rest) = some (l, rest)
  | [], _ => rfl
  | v :: l, h => by
    have hv := h v (by simp)
    simp only [List.length_cons, EK, List.flatMap_cons, List.append_assoc]
    rw [SO m v _ hv.1 hv.2]
    simp only [Option.bind_some]
    rw [Lb m rest l fun w hw => h w (by simp [hw])]
    rfl
def Ba : List C0 := [[102, 117, 108, 108], [103, 105, 118, 101, 110], [102, 97, 109, 105, 108, 121], [111, 114, 103], [116, 105, 116, 108, 101], [110, 111, 116, 101], [109, 97, 105, 108], [112, 104, 111, 110, 101]]
def IZ (nm : C0) : Option Nat := Ba.findIdx? fun x => decide (x = nm)
theorem NK {nm : C0} {i : Nat} (h : IZ nm = some i) : i < 8 := by
 have := List.findIdx?_eq_some_iff_getElem.1 h; obtain ⟨h1, _⟩ := this; simpa [Ba] using h1
theorem SP (i : Nat) (h : i < 8) : IZ (Ba.getD i []) = some i := by
 match i, h with
 | 0, _ | 1, _ | 2, _ | 3, _ | 4, _ | 5, _ | 6, _ | 7, _ => decide
theorem XN (i : Nat) (h : i < 8) : (32 : UInt8) ∉ Ba.getD i [] := by
 match i, h with
 | 0, _ | 1, _ | 2, _ | 3, _ | 4, _ | 5, _ | 6, _ | 7, _ => decide
noncomputable def LL (s : C0) : Option (Nat × List C0 × C0) := (B7 s 32).bind fun p => (B7 p.2 10).bind fun q => (IZ p.1).bind fun i => (HY q.1 8).bind fun n => (EK 200 n q.2).map fun r => (i, r.1, r.2)
noncomputable def E2 : Nat → Nat → C0 → List (List C0) → Option (List (List C0))
  | 0, _, s, c => if s = [] then some c else none
  | f + 1, k, s, c => if s = [] then some c else (LL s).bind fun p => if p.1 < k then none else E2 f (p.1 + 1) p.2.2 (c.set p.1 p.2.1)
def BZ (i : Nat) (l : List C0) : C0 := (if l = [] then [] else Ba.getD i [] ++ 32 :: decDigits l.length ++ [10]) ++ l.flatMap GU
def Ef (c : List (List C0)) : Nat → Nat → C0
  | 0, _ => []
  | n + 1, i => BZ i (c.getD i []) ++ Ef c n (i + 1)
theorem OZ (i : Nat) (l : List C0) (rest : C0) (hi : i < 8) (h1 : l ≠ []) (h2 : l.length ≤ 8) (hv : ∀ v, v ∈ l → 1 ≤ v.length ∧ v.length ≤ 200) : LL (BZ i l ++ rest) = some (i, l, rest) := by
 have e : BZ i l ++ rest = Ba.getD i [] ++ 32 :: (decDigits l.length ++ 10 :: (l.flatMap GU ++ rest)) := by simp [BZ, h1]
 have hd : (10 : UInt8) ∉ decDigits l.length := fun h => by have := IY _ _ h; simp at this
 have hp : 0 < l.length := List.length_pos_iff.2 h1; unfold LL; rw [e, Bf.2 ⟨rfl, XN i hi⟩]; simp only [Option.bind_some]; rw [Bf.2 ⟨rfl, hd⟩]; simp only [Option.bind_some]; rw [SP i hi]; simp only [Option.bind_some]; rw [Cj.2 ⟨hp, h2, rfl⟩]; simp only [Option.bind_some]; rw [Lb 200 rest l hv]; rfl
theorem SQ (i : Nat) (l : List C0) (rest : C0) (h : l ≠ []) : BZ i l ++ rest ≠ [] := by simp [BZ, h]
theorem EB (c : List (List C0)) (hc : c.length = 8) (h2 : ∀ l, l ∈ c → l.length ≤ 8) (hv : ∀ l, l ∈ c → ∀ v, v ∈ l → 1 ≤ v.length ∧ v.length ≤ 200) : ∀ (n i f k : Nat) (d : List (List C0)), i + n = 8 → n ≤ f → k ≤ i → d.length = 8 → (∀ j, j < i → d.getD j [] = c.getD j []) → (∀ j, i ≤ j → d.getD j [] = []) → E2 f k (Ef c n i) d = some c
  | 0, i, f, k, d, hi, hf, hk, hd, h3, h4 => by
    have e : d = c := List.ext_getElem (by omega) fun j q1 q2 => by
      have := h3 j (by omega)
      rw [List.getD_eq_getElem?_getD, List.getD_eq_getElem?_getD, List.getElem?_eq_getElem q1, List.getElem?_eq_getElem q2] at this
      simpa using this
    cases f <;> simp [E2, Ef, e]
  | n + 1, i, f, k, d, hi, hf, hk, hd, h3, h4 => by
    have hic : i < c.length := by omega
    have hg : c.getD i [] = c[i] := by rw [List.getD_eq_getElem?_getD, List.getElem?_eq_getElem hic]; rfl
    unfold Ef
    by_cases hl : c.getD i [] = []
    · have e : BZ i (c.getD i []) = [] := by rw [hl]; simp [BZ]
      rw [e, List.nil_append]
      refine EB c hc h2 hv n (i + 1) f k d (by omega) (by omega) (by omega) hd (fun j hj => ?_) (fun j hj => h4 j (by omega))
      rcases Nat.lt_or_ge j i with q | q
      · exact h3 j q
      · rw [show j = i by omega, hl, h4 i (Nat.le_refl _)]
    · cases f with
      | zero => omega
      | succ f =>
        have hm : c.getD i [] ∈ c := by rw [hg]; exact List.getElem_mem _
        unfold E2
        rw [if_neg (SQ i _ _ hl), OZ i _ _ (by omega) hl (h2 _ hm) (hv _ hm)]
        simp only [Option.bind_some]
        rw [if_neg (by omega)]
        refine EB c hc h2 hv n (i + 1) f (i + 1) _ (by omega) (by omega) (Nat.le_refl _) (by simpa using hd) (fun j hj => ?_) (fun j hj => ?_)
        · rcases Nat.lt_or_ge j i with q | q
          · have := h3 j q
            rw [List.getD_eq_getElem?_getD] at this ⊢
            rw [List.getElem?_set_ne (by omega)]
            exact this
          · rw [show j = i by omega, List.getD_eq_getElem?_getD, List.getElem?_set_self (by omega)]
            rfl
        · have := h4 j (by omega)
          rw [List.getD_eq_getElem?_getD] at this ⊢
          rw [List.getElem?_set_ne (by omega)]
          exact this
end Go.Idl
namespace Go.Idl
open Go Go.RowKit
abbrev rwS (l : List (List UInt8)) : HO := .row 1 (l.map fun s => [.v (str s)])
structure CE (J : A2) (n0 : Nat) (C : List IV) (c : List (List (List UInt8))) : Prop where
  len : C.length = c.length
  row : ∀ (j : Nat) (x : IV) (l : List (List UInt8)), C[j]? = some x → c[j]? = some l → (x = .v (.slice none 0 0) ∧ l = []) ∨ ∃ n, n0 ≤ n ∧ n < J.next ∧ x = .os n l.length ∧ J.obj n = some (rwS l)
  inj : ∀ (j j' n m m' : Nat), C[j]? = some (.os n m) → C[j']? = some (.os n m') → j = j'
theorem CE.U9 {J : A2} {n0 : Nat} (n : Nat) : CE J n0 (List.replicate n (.v (.slice none 0 0))) (List.replicate n []) where
  len := by simp
  row := fun j x l h1 h2 => by
    rw [List.getElem?_replicate] at h1 h2
    split at h1
    · rename_i h; rw [if_pos h] at h2; cases h1; cases h2; exact .inl ⟨rfl, rfl⟩
    · cases h1
  inj := fun j j' n m m' h1 _ => by
    rw [List.getElem?_replicate] at h1
    split at h1 <;> cases h1
theorem CE.mono {J J' : A2} {n0 : Nat} {C : List IV} {c : List (List (List UInt8))} (h : CE J n0 C c) (hx : J.next ≤ J'.next) (ho : ∀ k o, n0 ≤ k → k < J.next → J.obj k = some o → J'.obj k = some o) : CE J' n0 C c :=
  ⟨h.len, fun j x l h1 h2 => by
    rcases h.row j x l h1 h2 with h | ⟨n, h3, h4, h5, h6⟩
    · exact .inl h
    · exact .inr ⟨n, h3, by omega, h5, ho n _ h3 h4 h6⟩, h.inj⟩
theorem CE.at {J : A2} {n0 : Nat} {C : List IV} {c : List (List (List UInt8))} (h : CE J n0 C c) {f : Nat} (hf : f < c.length) : (C[f]? = some (.v (.slice none 0 0)) ∧ c[f] = []) ∨ ∃ n, n0 ≤ n ∧ n < J.next ∧ C[f]? = some (.os n c[f].length) ∧ J.obj n = some (rwS c[f]) := by
 have hf' : f < C.length := by rw [h.len]; exact hf
 rcases h.row f _ _ (List.getElem?_eq_getElem hf') (List.getElem?_eq_getElem hf) with ⟨h1, h2⟩ | ⟨n, h1, h2, h3, h4⟩
 ·exact .inl ⟨by rw [List.getElem?_eq_getElem hf', h1], h2⟩
 ·exact .inr ⟨n, h1, h2, by rw [List.getElem?_eq_getElem hf', h3], h4⟩
theorem CE.Lc {J J' : A2} {n0 : Nat} {C : List IV} {c : List (List (List UInt8))} (h : CE J n0 C c) {f k : Nat} {x : List UInt8} (hf : f < c.length) (hc : c[f] = []) (hk : n0 ≤ k) (hkJ : J.next ≤ k) (hk' : k < J'.next) (hx : J.next ≤ J'.next)
    (ho : ∀ i o, n0 ≤ i → i < J.next → J.obj i = some o → J'.obj i = some o) (hn : J'.obj k = some (rwS [x])) : CE J' n0 (C.set f (.os k 1)) (c.set f [x]) where
  len := by simp [h.len]
  row := fun j y l h1 h2 => by
    have hf' : f < C.length := by rw [h.len]; exact hf
    rw [List.getElem?_set] at h1 h2
    by_cases e : f = j
    · rw [if_pos e] at h1 h2
      subst e
      rw [if_pos hf'] at h1
      rw [if_pos hf] at h2
      cases h1
      cases h2
      exact .inr ⟨k, hk, hk', rfl, hn⟩
    · rw [if_neg e] at h1 h2
      exact (h.mono hx ho).row j y l h1 h2
  inj := fun j j' n m m' h1 h2 => by
    have old : ∀ (i m : Nat), C[i]? = some (.os k m) → False := fun i m e => by
      have hi : i < c.length := by rw [← h.len]; exact (List.getElem?_eq_some_iff.1 e).1
      rcases h.row i _ _ e (List.getElem?_eq_getElem hi) with ⟨q, _⟩ | ⟨n, _, q2, q3, _⟩
      · cases q
      · cases q3; omega
    rw [List.getElem?_set] at h1 h2
    by_cases e : f = j <;> by_cases e' : f = j'
    · omega
    · rw [if_pos e] at h1
      rw [if_neg e'] at h2
      split at h1
      · cases h1; exact (old _ _ h2).elim
      · cases h1
    · rw [if_neg e] at h1
      rw [if_pos e'] at h2
      split at h2
      · cases h2; exact (old _ _ h1).elim
      · cases h2
    · rw [if_neg e] at h1
      rw [if_neg e'] at h2
      exact h.inj j j' n m m' h1 h2
theorem CE.Ld {J J' : A2} {n0 : Nat} {C : List IV} {c : List (List (List UInt8))} (h : CE J n0 C c) {f k m : Nat} {l : List (List UInt8)} (hf : f < c.length) (hC : C[f]? = some (.os k m)) (hx : J.next ≤ J'.next)
    (ho : ∀ i o, n0 ≤ i → i < J.next → i ≠ k → J.obj i = some o → J'.obj i = some o) (hn : J'.obj k = some (rwS l)) : CE J' n0 (C.set f (.os k l.length)) (c.set f l) where
  len := by simp [h.len]
  row := fun j y l' h1 h2 => by
    have hf' : f < C.length := by rw [h.len]; exact hf
    rw [List.getElem?_set] at h1 h2
    by_cases e : f = j
    · rw [if_pos e] at h1 h2
      subst e
      rw [if_pos hf'] at h1
      rw [if_pos hf] at h2
      cases h1
      cases h2
      rcases h.row f _ _ hC (List.getElem?_eq_getElem hf) with ⟨q, _⟩ | ⟨n, q1, q2, q3, _⟩
      · cases q
      · cases q3; exact .inr ⟨k, q1, by omega, rfl, hn⟩
    · rw [if_neg e] at h1 h2
      rcases h.row j y l' h1 h2 with q | ⟨n, q1, q2, q3, q4⟩
      · exact .inl q
      · refine .inr ⟨n, q1, by omega, q3, ho n _ q1 q2 ?_ q4⟩
        rintro rfl
        rw [q3] at h1
        exact e (h.inj f j n m _ hC h1)
  inj := fun j j' n m1 m2 h1 h2 => by
    have back : ∀ (i m : Nat), (C.set f (.os k l.length))[i]? = some (.os n m) → ∃ m', C[i]? = some (.os n m') := fun i m e => by
      rw [List.getElem?_set] at e
      split at e
      · rename_i q
        split at e
        · cases e; exact ⟨_, by rw [← q]; exact hC⟩
        · cases e
      · exact ⟨_, e⟩
    obtain ⟨a, ha⟩ := back j m1 h1
    obtain ⟨b, hb⟩ := back j' m2 h2
    exact h.inj j j' n a b ha hb
theorem CE.fz {J H : A2} {n0 : Nat} {C : List IV} {c : List (List (List UInt8))} (h : CE J n0 C c) (hk : ∀ n, n0 ≤ n → H.obj n = none) : Fz J H (.ag C) (.ag (c.map fun l => .sl 1 (l.map fun s => [.v (str s)]))) := by
 refine .ag _ _ (by simp [h.len]) fun j x y h1 h2 => ?_; rw [List.getElem?_map] at h2; cases hc : c[j]? with
 | none => rw [hc] at h2; cases h2
 | some l =>
  rw [hc] at h2; cases h2; have hnb : NB H.next (.sl 1 (l.map fun s => [IV.v (str s)])) := LZ.2 fun e he z hz => by
   obtain ⟨s, _, rfl⟩ := List.mem_map.1 he; simp at hz; subst hz; exact .v _
  rcases h.row j x l h1 hc with ⟨rfl, rfl⟩ | ⟨n, q1, q2, rfl, q4⟩
  ·exact .wk _ _ (.nil 1) (by simpa using hnb)
  ·exact .row (hk n q1) q4 (by simp) hnb
end Go.Idl
namespace Go.Idl
open Go
theorem bP (f : Int) : F76 f = some (Gk f) := by
 unfold F76 Gk; split <;> rfl
def C6 (f : Int) (l : List Str) : Bool := BD f l && (!decide (f = 0) || decide (l.length = 1))
theorem bQ (f : Int) (l : List Str) (hl : l.length ≤ 1000000 ∧ ∀ s, s ∈ l → s.length ≤ 1000000) : F47 f l = some (C6 f l) := by
 unfold F47; rw [bP]; simp only [Option.bind_some]; by_cases h1 : Gk f < (l.length : Int)
 ·rw [if_pos h1]; have : ¬ ((l.length : Int) ≤ Gk f) := by omega
  simp [C6, BD, this]
 ·rw [if_neg h1]; have main : ((!decide (f = 0) || decide (l.length = 1)) = true) → IP f l = some (C6 f l) := by
   intro hz; unfold IP; obtain ⟨r, q1, q2⟩ := Dj (step := fun (s : Int) => IN f l s) (Post := fun y => (y = .inl () ∧ l.all (Be f) = true ∧ B5 l = true) ∨ (y = .inr false ∧ (l.all (Be f) && B5 l) = false)) l.length (fun i => (l.take i).all (Be f) = true ∧ B5 (l.take i) = true) (by simp [B5])
    (fun i hi hI => by
      have hw := AS (i := i) (by omega)
      have hli := hl.2 l[i] (List.getElem_mem _)
      -- the bytes of a value
      have inner : 1 ≤ l[i].length → l[i].length ≤ 200 → DO f l i = if Be f l[i] = true then some (.inl ((i + 1 : Nat) : Int)) else some (.inr (.inr false)) := by
        intro hlo hhi
        unfold DO
        obtain ⟨r, p1, p2⟩ := Dj (step := fun (s : Int) => FU f l i s) (Post := fun y => (y = .inl () ∧ l[i].all (BB f) = true) ∨ (y = .inr false ∧ l[i].all (BB f) = false)) l[i].length (fun j => (l[i].take j).all (BB f) = true) (by simp)
          (fun j hj hJ => by
            have hwj := AS (i := j) (by omega)
            simp only [FU]
            rw [A9 (by omega), Int.toNat_natCast, getD_some hi, if_pos (by omega), A9 (by omega), Int.toNat_natCast, getD_some hj, hwj]
            have bad : BB f l[i][j] = false → l[i].all (BB f) = false := fun h => by
              rw [List.all_eq_false]
              exact ⟨l[i][j], List.getElem_mem _, by simp [h]⟩
            have good : BB f l[i][j] = true → (l[i].take (j + 1)).all (BB f) = true := fun h => by
              rw [List.take_succ_eq_append_getElem hj, List.all_append, hJ]
              simp [h]
            by_cases b1 : ((l[i][j].toNat : Int)) < 32
            · rw [if_pos b1]
              by_cases b2 : ((l[i][j].toNat : Int)) = 10
              · rw [if_neg (by simpa using b2)]
                by_cases b3 : f = 5
                · rw [if_neg (by simpa using b3)]
                  exact .inl ⟨rfl, good (by simp [BB, b3]; omega)⟩
                · rw [if_pos b3]
                  exact .inr ⟨_, rfl, .inr ⟨rfl, bad (by simp [BB, b3]; omega)⟩⟩
              · rw [if_pos b2]
                exact .inr ⟨_, rfl, .inr ⟨rfl, bad (by simp [BB]; omega)⟩⟩
            · rw [if_neg b1]
              exact .inl ⟨rfl, good (by simp [BB]; omega)⟩)
          (fun hJ => by
            simp only [FU]
            rw [A9 (by omega), Int.toNat_natCast, getD_some hi, if_neg (by omega)]
            rw [List.take_length] at hJ
            exact ⟨_, rfl, .inl ⟨rfl, hJ⟩⟩)
        rw [p1]
        rcases p2 with ⟨rfl, h⟩ | ⟨rfl, h⟩
        · simp [JV, Be, h, hlo, hhi, hw]
        · simp [Be, h]
      have badv : Be f l[i] = false → (l.all (Be f) && B5 l) = false := fun h => by
        have : l.all (Be f) = false := by
          rw [List.all_eq_false]
          exact ⟨l[i], List.getElem_mem _, by simp [h]⟩
        rw [this, Bool.false_and]
      have step2 : (i = 0 ∨ B5 (l.take (i + 1)) = true) → 1 ≤ l[i].length → l[i].length ≤ 200 → (DO f l i = some (.inl ((i + 1 : Nat) : Int)) ∧ ((l.take (i + 1)).all (Be f) = true ∧ B5 (l.take (i + 1)) = true)) ∨ ∃ r, DO f l i = some (.inr r) ∧ ((r = .inl () ∧ l.all (Be f) = true ∧ B5 l = true) ∨ (r = .inr false ∧ (l.all (Be f) && B5 l) = false)) := by
        intro hr hlo hhi
        rw [inner hlo hhi]
        cases hv : Be f l[i] with
        | true =>
          refine .inl ⟨rfl, ?_, ?_⟩
          · rw [List.take_succ_eq_append_getElem hi, List.all_append, hI.1]
            simp [hv]
          · rcases hr with rfl | hr
            · cases l with
              | nil => simp at hi
              | cons x t => simp [B5]
            · exact hr
        | false => exact .inr ⟨_, rfl, .inr ⟨rfl, badv hv⟩⟩
      simp only [IN]
      rw [if_pos (by omega), A9 (by omega), Int.toNat_natCast, getD_some hi]
      by_cases c1 : (l[i].length : Int) < 1
      · rw [if_pos c1]
        exact .inr ⟨_, rfl, .inr ⟨rfl, badv (by simp [Be]; omega)⟩⟩
      · rw [if_neg c1]
        by_cases c2 : 200 < (l[i].length : Int)
        · rw [if_pos c2]
          exact .inr ⟨_, rfl, .inr ⟨rfl, badv (by simp [Be]; omega)⟩⟩
        · rw [if_neg c2]
          by_cases c3 : 0 < (i : Int)
          · have e1 : IntKind.i64.wrap ((i : Int) - 1) = ((i - 1 : Nat) : Int) := by rw [wrap_i64 (by omega) (by omega)]; omega
            have hi1 : i - 1 < l.length := by omega
            have hrt := KH l i (by omega) hi
            rw [if_pos c3, e1, A9 (by omega), Int.toNat_natCast, getD_some hi1]
            by_cases c4 : Op.bytesLess l[i - 1] l[i] = true
            · rw [if_neg (by simpa using c4)]
              exact step2 (.inr (by rw [hrt, hI.2, c4]; rfl)) (by omega) (by omega)
            · rw [if_pos c4]
              refine .inr ⟨_, rfl, .inr ⟨rfl, ?_⟩⟩
              have : B5 l = false := by
                cases hh : B5 l with
                | false => rfl
                | true =>
                  have := GH l (i + 1) hh
                  rw [hrt] at this
                  simp [c4] at this
              rw [this, Bool.and_false]
          · rw [if_neg c3]
            exact step2 (.inl (by omega)) (by omega) (by omega))
    (fun hI => by
      simp only [IN]
      rw [if_neg (by omega)]
      rw [List.take_length] at hI
      exact ⟨_, rfl, .inl ⟨rfl, hI⟩⟩)
   rw [q1]; have hm : (l.length : Int) ≤ Gk f := by omega
   rcases q2 with ⟨rfl, h2, h3⟩ | ⟨rfl, h2⟩
   ·have e : (l.any fun s => !Be f s) = false := by
     rw [List.any_eq_false]; intro s hs'; simp [List.all_eq_true.1 h2 s hs']
    simp [Nt, C6, BD, e, h3, hm, hz]
   ·have e : (!(l.any fun s => !Be f s) && B5 l) = false := by
     rw [← h2]; congr 1; rw [Bool.eq_iff_iff]; simp
    simp only [Option.bind_some, Sum.elim_inr, C6, BD, Bool.and_assoc] at e ⊢; rw [← Bool.and_assoc (!_), e]; simp
  by_cases h2 : f = 0
  ·rw [if_pos h2]; by_cases h3 : (l.length : Int) = 1
   ·rw [if_neg (by simpa using h3)]; exact main (by simp; omega)
   ·rw [if_pos h3]; have : ¬ l.length = 1 := by omega
    simp [C6, h2, this]
  ·rw [if_neg h2]; exact main (by simp [h2])
theorem I_ (c : List (List Str)) (hc : c.length = 8) : AH c = true ↔ ∀ (i : Nat) (h : i < c.length), C6 i c[i] = true := by
 unfold AH; simp only [Bool.and_eq_true, List.all_eq_true, decide_eq_true_eq]; constructor
 ·rintro ⟨h1, h2⟩ i hi
  have := h1 (c[i], i) (by rw [List.mem_zipIdx_iff_getElem?]; simp [hi]); simp only [C6, this, Bool.true_and, Bool.or_eq_true, Bool.not_eq_true', decide_eq_false_iff_not, decide_eq_true_eq]; by_cases e : i = 0
  ·subst e; rw [getD_some hi] at h2; exact .inr h2
  ·exact .inl (by omega)
 ·intro h; refine ⟨fun p hp => ?_, ?_⟩
  ·obtain ⟨l, i⟩ := p; rw [List.mem_zipIdx_iff_getElem?] at hp; obtain ⟨hi, he⟩ := List.getElem?_eq_some_iff.1 hp; have := h i hi; simp only [C6, Bool.and_eq_true] at this; simp only at he; rw [← he]; exact this.1
  ·have h0 : 0 < c.length := by omega
   have := h 0 h0; simp only [C6, Bool.and_eq_true] at this; rw [getD_some h0]; simpa using this.2
theorem Qu (c : List (List Str)) (hs : DB c) : F17 c = some (AH c) := by
 obtain ⟨hc, hs⟩ := hs; unfold F17; rw [A9 hc]; obtain ⟨r, h1, h2⟩ := Dj (step := fun (s : Int) => IQ c s) (Post := fun y => (y = .inl () ∧ AH c = true) ∨ (y = .inr false ∧ AH c = false)) 8 (fun i => ∀ (j : Nat) (h : j < c.length), j < i → C6 j c[j] = true) (by intro j _ h; omega)
  (fun i hi hI => by
    have hw := AS (i := i) (by omega)
    have hi' : i < c.length := by omega
    simp only [IQ]
    rw [if_pos (by omega), A9 (by omega), Int.toNat_natCast, getD_some hi', bQ _ _ (hs _ (List.getElem_mem _))]
    simp only [Option.bind_some]
    by_cases h : C6 i c[i] = true
    · rw [if_neg (by simpa using h), hw]
      refine .inl ⟨rfl, fun j hj hji => ?_⟩
      by_cases e : j = i
      · subst e; exact h
      · exact hI j hj (by omega)
    · rw [if_pos h]
      refine .inr ⟨_, rfl, .inr ⟨rfl, ?_⟩⟩
      rw [Bool.eq_false_iff]
      intro h'
      exact h ((I_ c hc).1 h' i hi'))
  (fun hI => by
    simp only [IQ]
    rw [if_neg (by omega)]
    exact ⟨_, rfl, .inl ⟨rfl, (I_ c hc).2 fun i hi => hI i hi (by omega)⟩⟩)
 rw [h1]; rcases h2 with ⟨rfl, h⟩ | ⟨rfl, h⟩
 ·simp [Nu, h]
 ·simp [h]
end Go.Idl
namespace Go.Idl
open Go
theorem BP {α : Type} (l : List α) (p : α → Bool) {step : Int → Option (Int ⊕ (Unit ⊕ Bool))} (hl : l.length ≤ 1000000000)
    (hs : ∀ (i : Nat) (h : i < l.length), step (i : Int) = some (if p l[i] = true then .inl (IntKind.i64.wrap ((i : Int) + 1)) else .inr (.inr false)))
    (hf : step (l.length : Int) = some (.inr (.inl ()))) : AE step 0 = some (if l.all p = true then .inl () else .inr false) := by
 rw [CQ l (fun _ x => if p x = true then none else some (.inr false)) (.inl ()) hl (fun i h => by
   rw [hs i h]
   by_cases hp : p l[i] = true
   · simp [hp]
   · simp [hp]) hf, IX]
theorem Jv {α ρ : Type} {f g : Nat → α → Option ρ} {d : ρ} : ∀ {l : List α} {k : Nat}, (∀ i x, k ≤ i → f i x = g i x) → CD f d k l = CD g d k l
  | [], _, _ => rfl
  | x :: l, k, h => by
    rw [Ce, Ce, h k x (Nat.le_refl _)]
    cases g k x with
    | none => exact Jv fun i x hi => h i x (by omega)
    | some r => rfl
theorem Mj {α : Type} (p : α → Bool) : ∀ (l : List α) (k : Nat), ∃ j : Int, 0 ≤ j ∧ CD (fun i x => if p x = true then none else some (.inr (i : Int))) (.inl ()) k l = (if l.all p = true then (.inl () : Unit ⊕ Int) else .inr j)
  | [], k => ⟨0, by omega, by simp [CD]⟩
  | x :: l, k => by
    rw [Ce]
    by_cases h : p x = true
    · obtain ⟨j, h1, h2⟩ := Mj p l (k + 1)
      exact ⟨j, h1, by simp only [h, if_true]; rw [h2]; simp [h]⟩
    · exact ⟨k, by omega, by simp [h]⟩
def Jw (x : UInt8) : Bool := decide (33 ≤ x.toNat ∧ x.toNat ≤ 126)
def BQ (u : Str) : Bool := u.all Jw && decide (1 ≤ u.length ∧ u.length ≤ 64)
theorem Vg (u : Str) (h : u.length ≤ 1000000) : F53 u = some (BQ u) := by
 unfold F53
 rw [A9 (by omega), BP u Jw (by omega)
   (fun i hi => by
     simp only [KV]
     rw [if_pos (by omega), A9 (by omega), Int.toNat_natCast, getD_some hi]
     simp only [Jw, decide_eq_true_eq]
     by_cases a : u[i].toNat < 33
     · rw [if_pos (by omega), if_neg (by omega)]
     · rw [if_neg (by omega)]
       by_cases b : 126 < u[i].toNat
       · rw [if_pos (by omega), if_neg (by omega)]
       · rw [if_neg (by omega), if_pos (by omega)])
   (by simp only [KV]; rw [if_neg (by omega)])]
 unfold BQ; by_cases h1 : u.all Jw = true
 ·simp only [h1, if_true, Option.bind_some, Sum.elim_inl, Nf, Bool.true_and]; by_cases h2 : (1 : Int) ≤ u.length
  ·rw [if_pos h2]; congr 1; rw [decide_eq_decide]; omega
  ·rw [if_neg h2, decide_eq_false (by omega)]
 ·rw [if_neg h1, Bool.eq_false_iff.2 h1]; simp
theorem Vh (u : Str) (h : u.length ≤ 1000000) : F72 u = some (BQ u) := by
 unfold F72
 rw [BP u Jw (by omega)
   (fun i hi => by
     simp only [L1]
     rw [if_pos (by omega), A9 (by omega), Int.toNat_natCast, getD_some hi]
     simp only [Jw, decide_eq_true_eq]
     by_cases a : u[i].toNat < 33
     · rw [if_pos (by omega), if_neg (by omega)]
     · rw [if_neg (by omega)]
       by_cases b : 126 < u[i].toNat
       · rw [if_pos (by omega), if_neg (by omega)]
       · rw [if_neg (by omega), if_pos (by omega)])
   (by simp only [L1]; rw [if_neg (by omega)])]
 unfold BQ; by_cases h1 : u.all Jw = true
 ·simp only [h1, if_true, Option.bind_some, Sum.elim_inl, Ns, Bool.true_and]; by_cases h2 : (1 : Int) ≤ u.length
  ·rw [if_pos h2]; congr 1; rw [decide_eq_decide]; omega
  ·rw [if_neg h2, decide_eq_false (by omega)]
 ·rw [if_neg h1, Bool.eq_false_iff.2 h1]; simp
def Du (x : UInt8) : Bool := decide ((97 ≤ x.toNat ∧ x.toNat ≤ 122) ∨ (65 ≤ x.toNat ∧ x.toNat ≤ 90) ∨ (48 ≤ x.toNat ∧ x.toNat ≤ 57) ∨ x.toNat = 45 ∨ x.toNat = 46 ∨ x.toNat = 95)
set_option maxHeartbeats 4000000 in
theorem XO (x : UInt8) : Uz (x.toNat : Int) = some (Du x) := by
 unfold Uz Du; by_cases h : (97 ≤ x.toNat ∧ x.toNat ≤ 122) ∨ (65 ≤ x.toNat ∧ x.toNat ≤ 90) ∨ (48 ≤ x.toNat ∧ x.toNat ≤ 57) ∨ x.toNat = 45 ∨ x.toNat = 46 ∨ x.toNat = 95
 ·rw [decide_eq_true h]
  repeat' split
  all_goals first | rfl | (exfalso; omega) | (congr 1; rw [decide_eq_true_eq]; omega)
 ·rw [decide_eq_false h]
  repeat' split
  all_goals first | rfl | (exfalso; omega) | (congr 1; rw [decide_eq_false_iff_not]; omega)
def Jx (s : Str) : Bool := s.all Du && decide (1 ≤ s.length ∧ s.length ≤ 64)
theorem bR (s : Str) (h : s.length ≤ 1000000) : F83 s = some (Jx s) := by
 have e : UA s = some (s.all Du) := by
  unfold UA
  rw [A9 (by omega), BP s Du (by omega)
    (fun i hi => by
      simp only [HH]
      rw [if_pos (by omega), A9 (by omega), Int.toNat_natCast, getD_some hi, XO]
      simp only [Option.bind_some]
      cases Du s[i] <;> simp)
    (by simp only [HH]; rw [if_neg (by omega)])]
  by_cases h1 : s.all Du = true
  ·simp [h1, JN]
  ·rw [if_neg h1, Bool.eq_false_iff.2 h1]; simp
 unfold F83 Jx; rw [e]; by_cases h2 : (1 : Int) ≤ s.length
 ·rw [if_pos h2]; by_cases h3 : (s.length : Int) ≤ 64
  ·rw [if_pos h3, decide_eq_true (by omega)]; simp
  ·rw [if_neg h3, decide_eq_false (by omega)]; simp
 ·rw [if_neg h2, decide_eq_false (by omega)]; simp
def HZ : Str := [47, 98, 111, 111, 107, 47]
def BF (s : Str) : Bool := decide (s.take 6 = HZ) && Jx (s.drop 6)
theorem Vi (s : Str) (h : s.length ≤ 1000000) : F55 s = some (BF s) := by
 have e : F64 s [47, 98, 111, 111, 107, 47] = some (if s.take 6 = HZ then (s.drop 6, true) else (s, false)) := by
  unfold F64 Ux Uw; by_cases h1 : ((([47, 98, 111, 111, 107, 47] : Str).length : Int)) ≤ s.length
  ·have h6 : (6 : Int) ≤ s.length := by simpa using h1
   rw [if_pos h1, A9 (by simp), A9 h1]; simp only [Option.bind_some, List.length_cons, List.length_nil]; by_cases h2 : s.take 6 = HZ
   ·have h3 : List.take (((0 + 1 + 1 + 1 + 1 + 1 + 1 : Nat) : Int)).toNat s = [47, 98, 111, 111, 107, 47] := h2; rw [decide_eq_true h3, if_neg (by simp), A9 (by omega), A9 (by simpa using h6), if_pos h2]; rfl
   ·have h3 : ¬ List.take (((0 + 1 + 1 + 1 + 1 + 1 + 1 : Nat) : Int)).toNat s = [47, 98, 111, 111, 107, 47] := h2; rw [decide_eq_false h3, if_pos (by simp), if_neg h2]; rfl
  ·rw [if_neg h1]; have h2 : ¬ s.take 6 = HZ := by
    intro e; have := congrArg List.length e; simp [HZ] at this; simp at h1; omega
   rw [if_neg h2]; simp
 unfold F55; rw [e]; unfold BF; by_cases h2 : s.take 6 = HZ
 ·rw [if_pos h2, decide_eq_true h2]; simp only [Option.bind_some, if_true]; rw [bR _ (by rw [List.length_drop]; omega)]; simp
 ·rw [if_neg h2, decide_eq_false h2]; simp
set_option maxHeartbeats 4000000 in
theorem Vj (s : Str) (h : s.length ≤ 1000000) : F71 s = some (BF s) := by
 have e : ∀ s : Str, s.length ≤ 1000000 → UR s = some (Jx s) := fun s h => by
  unfold UR
  rw [BP s Du (by omega)
    (fun i hi => by
      simp only [HR]
      rw [if_pos (by omega), A9 (by omega), Int.toNat_natCast, getD_some hi]
      generalize hx : s[i] = x
      unfold Du
      by_cases h : (97 ≤ x.toNat ∧ x.toNat ≤ 122) ∨ (65 ≤ x.toNat ∧ x.toNat ≤ 90) ∨ (48 ≤ x.toNat ∧ x.toNat ≤ 57) ∨ x.toNat = 45 ∨ x.toNat = 46 ∨ x.toNat = 95
      · rw [decide_eq_true h, if_pos rfl]
        repeat' split
        all_goals first | rfl | (exfalso; omega)
      · rw [decide_eq_false h]
        simp only [Bool.false_eq_true, if_false]
        repeat' split
        all_goals first | rfl | (exfalso; omega))
    (by simp only [HR]; rw [if_neg (by omega)])]
  unfold Jx; by_cases h1 : s.all Du = true
  ·simp only [h1, if_true, Option.bind_some, Sum.elim_inl, JU, Bool.true_and]; by_cases h2 : (1 : Int) ≤ s.length
   ·rw [if_pos h2]; congr 1; rw [decide_eq_decide]; omega
   ·rw [if_neg h2, decide_eq_false (by omega)]
  ·rw [if_neg h1, Bool.eq_false_iff.2 h1]; simp
 unfold F71 BF; by_cases h1 : (6 : Int) < s.length
 ·rw [if_pos h1, A9 (by omega), A9 (by omega)]; by_cases h2 : s.take 6 = HZ
  ·have h3 : s.take 6 = [47, 98, 111, 111, 107, 47] := h2; rw [if_pos h3, decide_eq_true h2, e _ (by rw [List.length_drop]; omega)]; simp
  ·have h3 : ¬ s.take 6 = [47, 98, 111, 111, 107, 47] := h2; rw [if_neg h3, decide_eq_false h2]; simp
 ·rw [if_neg h1]; have : Jx (s.drop 6) = false := by
   rw [List.drop_of_length_le (by omega)]; rfl
  rw [this]; simp
def Dh (x : UInt8) : Bool := decide ((97 ≤ x.toNat ∧ x.toNat ≤ 122) ∨ (65 ≤ x.toNat ∧ x.toNat ≤ 90))
def Cz (x : UInt8) : Bool := Dh x || decide ((48 ≤ x.toNat ∧ x.toNat ≤ 57) ∨ x.toNat = 45)
def BX (s : Str) : Bool := decide (1 ≤ s.length ∧ s.length ≤ 64) && (match s with | [] => false | c :: _ => Dh c) && s.all Cz
theorem FY (x : UInt8) (a b : Nat) : G9 (x.toNat : Int) (a : Int) (b : Int) = some (decide (a ≤ x.toNat ∧ x.toNat ≤ b)) := by
 unfold G9; by_cases h : (a : Int) ≤ x.toNat
 ·rw [if_pos h]; congr 1; rw [decide_eq_decide]; omega
 ·rw [if_neg h, decide_eq_false (by omega)]
theorem Vk (s : Str) (h : s.length ≤ 1000000) : F80 s = some (BX s) := by
 unfold F80
 rw [A9 (by omega), CQ s (fun i x => if (Dh x || (decide (¬ i = 0) && Cz x)) = true then none else some (.inr false)) (.inl ()) (by omega)
   (fun i hi => by
     simp only [KY]
     rw [if_pos (by omega), A9 (by omega), Int.toNat_natCast, getD_some hi]
     generalize s[i] = x
     have e1 : G9 (x.toNat : Int) 97 122 = _ := FY x 97 122
     have e2 : G9 (x.toNat : Int) 65 90 = _ := FY x 65 90
     have e3 : G9 (x.toNat : Int) 48 57 = _ := FY x 48 57
     rw [e1, e2, e3]
     simp only [Option.bind_some, decide_eq_true_eq]
     by_cases h1 : 97 ≤ x.toNat ∧ x.toNat ≤ 122
     · have : Dh x = true := by simp only [Dh, decide_eq_true_eq]; exact .inl h1
       simp [h1, this]
     · by_cases h2 : 65 ≤ x.toNat ∧ x.toNat ≤ 90
       · have : Dh x = true := by simp only [Dh, decide_eq_true_eq]; exact .inr h2
         simp [h1, h2, this]
       · have hl : Dh x = false := by simp only [Dh, decide_eq_false_iff_not]; omega
         rw [if_pos h1, if_pos h2]
         by_cases h0 : i = 0
         · subst h0
           simp [hl]
         · have h0' : ¬ ((i : Int) = 0) := by omega
           rw [if_neg h0']
           by_cases h3 : 48 ≤ x.toNat ∧ x.toNat ≤ 57
           · have : Cz x = true := by simp only [Cz, Bool.or_eq_true, decide_eq_true_eq]; exact .inr (.inl h3)
             simp [h3, this, h0]
           · rw [if_pos h3]
             by_cases h4 : (x.toNat : Int) = 45
             · have : Cz x = true := by simp only [Cz, Bool.or_eq_true, decide_eq_true_eq]; exact .inr (.inr (by omega))
               simp [h4, this, h0]
             · have : Cz x = false := by simp only [Cz, Bool.or_eq_false_iff, hl, decide_eq_false_iff_not, true_and]; omega
               rw [if_pos h4]
               simp [this, hl])
   (by simp only [KY]; rw [if_neg (by omega)])]
 unfold BX; cases s with
 | nil => simp [CD, KX]
 | cons c t =>
  rw [Ce]; by_cases hc : Dh c = true
  ·have hw : Cz c = true := by simp [Cz, hc]
   simp only [hc, Bool.true_or, if_true]
   rw [Jv (g := fun _ x => if Cz x = true then none else some (.inr false)) (fun i x hi => by
     have : ¬ i = 0 := by omega
     by_cases hx : Dh x = true
     · have : Cz x = true := by simp [Cz, hx]
       simp [hx, this]
     · simp [this, hx]), IX]
   by_cases ha : t.all Cz = true
   ·simp only [ha, if_true, Option.bind_some, Sum.elim_inl, KX, List.all_cons, hw, Bool.and_true]; by_cases h2 : (1 : Int) ≤ (c :: t).length
    ·rw [if_pos h2]; simp; omega
    ·simp at h2; omega
   ·rw [if_neg ha]; simp [List.all_cons, Bool.eq_false_iff.2 ha]
  ·have hc' : Dh c = false := Bool.eq_false_iff.2 hc; simp [hc']
set_option maxHeartbeats 4000000 in
theorem XP (s : Str) (h : s.length ≤ 1000000) : UT s = some (BX s) := by
 have eL : ∀ x : UInt8, SF (x.toNat : Int) = some (Dh x) := fun x => by
  unfold SF Dh; by_cases h : (97 ≤ x.toNat ∧ x.toNat ≤ 122) ∨ (65 ≤ x.toNat ∧ x.toNat ≤ 90)
  ·rw [decide_eq_true h]
   repeat' split
   all_goals first | rfl | (exfalso; omega) | (congr 1; rw [decide_eq_true_eq]; omega)
  ·rw [decide_eq_false h]
   repeat' split
   all_goals first | rfl | (exfalso; omega) | (congr 1; rw [decide_eq_false_iff_not]; omega)
 unfold UT BX; by_cases h1 : (s.length : Int) < 1
 ·rw [if_pos h1, decide_eq_false (by omega)]; simp
 ·rw [if_neg h1]; by_cases h2 : (64 : Int) < s.length
  ·rw [if_pos h2, decide_eq_false (by omega)]; simp
  ·rw [if_neg h2, decide_eq_true (by omega), A9 (by omega), eL]; cases s with
   | nil => simp at h1
   | cons c t =>
    simp only [Option.bind_some, List.getD_cons_zero, Bool.true_and]; by_cases hc : Dh c = true
    ·rw [hc, if_neg (by simp), BP (c :: t) Cz (by omega)
       (fun i hi => by
         simp only [Fp]
         rw [if_pos (by omega), A9 (by omega), Int.toNat_natCast, getD_some hi, eL]
         generalize (c :: t)[i] = x
         simp only [Option.bind_some]
         by_cases hx : Dh x = true
         · have : Cz x = true := by simp [Cz, hx]
           rw [if_neg (by simpa using hx), if_pos this]
         · have hx' : Dh x = false := Bool.eq_false_iff.2 hx
           rw [if_pos hx]
           by_cases hw : (48 ≤ x.toNat ∧ x.toNat ≤ 57) ∨ x.toNat = 45
           · have : Cz x = true := by simp only [Cz, Bool.or_eq_true, decide_eq_true_eq]; exact .inr hw
             rw [if_pos this]
             repeat' split
             all_goals first | rfl | (exfalso; omega)
           · have : Cz x = false := by simp only [Cz, Bool.or_eq_false_iff, hx', decide_eq_false_iff_not, true_and]; exact hw
             rw [this]
             simp only [Bool.false_eq_true, if_false]
             repeat' split
             all_goals first | rfl | (exfalso; omega))
       (by simp only [Fp]; rw [if_neg (by omega)])]
     by_cases ha : (c :: t).all Cz = true
     ·simp only [ha, if_true, Option.bind_some, Sum.elim_inl, HS, Bool.and_true]
     ·rw [if_neg ha, Bool.eq_false_iff.2 ha]; simp
    ·have hc' : Dh c = false := Bool.eq_false_iff.2 hc; simp [hc']
end Go.Idl
namespace Go.Idl
open Go
def lt8 (a b : Str) : Prop := Op.bytesLess a b = true
instance (a b : Str) : Decidable (lt8 a b) := inferInstanceAs (Decidable (_ = true))
theorem K1 (a b : Str) : lt8 a b ↔ a < b := by rw [lt8, Go.Proofs.bytesLess_eq, decide_eq_true_eq]
theorem CR (a : Str) : ¬ lt8 a a := by rw [K1]; exact List.lt_irrefl a
theorem J0 {a b c : Str} (h : lt8 a b) (k : lt8 b c) : lt8 a c := by rw [K1] at *; exact List.lt_trans h k
theorem XQ {a b : Str} (h : ¬ lt8 a b) (hne : ¬ a = b) : lt8 b a := by
 rw [K1] at *; have h1 : b ≤ a := List.not_lt.1 h; rcases List.le_iff_lt_or_eq.1 h1 with h2 | h2
 ·exact h2
 ·exact absurd h2.symm hne
abbrev SR (l : List Str) : Prop := l.Pairwise lt8
theorem Mk : ∀ {l m : List Str}, SR l → SR m → (∀ x, x ∈ l ↔ x ∈ m) → l = m
  | [], [], _, _, _ => rfl
  | [], y :: m, _, _, h => by have := (h y).2 (by simp); simp at this
  | x :: l, [], _, _, h => by have := (h x).1 (by simp); simp at this
  | x :: l, y :: m, hl, hm, h => by
    rw [SR, List.pairwise_cons] at hl hm
    have hxy : x = y := by
      have h1 := (h x).1 (by simp)
      have h2 := (h y).2 (by simp)
      rcases List.mem_cons.1 h1 with h1 | h1
      · exact h1
      · rcases List.mem_cons.1 h2 with h2 | h2
        · exact h2.symm
        · exact absurd (J0 (hm.1 x h1) (hl.1 y h2)) (CR y)
    subst hxy
    rw [Mk hl.2 hm.2 fun z => ?_]
    constructor
    · intro hz
      have := (h z).1 (by simp [hz])
      rcases List.mem_cons.1 this with e | e
      · exact absurd (e ▸ hl.1 z hz) (CR _)
      · exact e
    · intro hz
      have := (h z).2 (by simp [hz])
      rcases List.mem_cons.1 this with e | e
      · exact absurd (e ▸ hm.1 z hz) (CR _)
      · exact e
theorem GV {l : List Str} (h : SR l) : l.Nodup := by
 refine h.imp fun {a b} hab e => ?_; subst e; exact CR _ hab
theorem SS (l : List Str) (x : Str) : x ∈ Df l ↔ x ∈ l := by simp [Df]
theorem Qv {l : List Str} (h : l.Nodup) : SR (Df l) := by
 have hs : (Df l).Pairwise (fun a b => a ≤ b) := by
  have := List.pairwise_mergeSort (le := fun (x y : Str) => decide (x ≤ y)) (fun a b c h1 h2 => by simp only [decide_eq_true_eq] at *; exact List.le_trans h1 h2) (fun a b => by simp only [Bool.or_eq_true, decide_eq_true_eq]; exact List.le_total a b) l; exact this.imp fun h => by simpa using h
 have hn : (Df l).Nodup := (List.mergeSort_perm l _).nodup_iff.2 h; have hb := List.pairwise_and_iff.2 ⟨hs, hn⟩; refine hb.imp fun {a b} hab => ?_; rw [K1]; rcases List.le_iff_lt_or_eq.1 hab.1 with h2 | h2
 ·exact h2
 ·exact absurd h2 hab.2
section
variable {κ β : Type} [DecidableEq κ]
theorem Fy (m : List (κ × β)) (k : κ) (v : β) (n : κ) : AY (AU m k v) n = if n = k then some v else AY m n := by
 induction m with
 | nil =>
  simp only [AU, AY]; by_cases h : k = n
  ·simp [h]
  ·rw [if_neg h, if_neg (fun e => h e.symm)]
 | cons p t ih =>
  simp only [AU]; by_cases h : p.1 = k
  ·rw [if_pos h]; simp only [AY]; by_cases hn : k = n
   ·simp [hn]
   ·rw [if_neg hn, if_neg (fun e => hn e.symm), h, if_neg hn]
  ·rw [if_neg h]; simp only [AY]; by_cases hn : p.1 = n
   ·rw [if_pos hn, if_pos hn, if_neg (fun e => h (hn.trans e))]
   ·rw [if_neg hn, if_neg hn]; exact ih
theorem FZ {m : List (κ × β)} {n : κ} : n ∈ m.map (·.1) ↔ (AY m n).isSome = true := by
 induction m with
 | nil => simp [AY]
 | cons p t ih =>
  simp only [List.map_cons, List.mem_cons, AY] at ih ⊢; by_cases h : p.1 = n
  ·simp [h]
  ·rw [if_neg h, ← ih]; constructor
   ·rintro (e | e)
    ·exact absurd e.symm h
    ·exact e
   ·exact .inr
theorem Vl {m : List (κ × β)} {k : κ} {v : β} {n : κ} : n ∈ (AU m k v).map (·.1) ↔ n = k ∨ n ∈ m.map (·.1) := by
 rw [FZ, Fy, FZ]; by_cases h : n = k
 ·simp [h]
 ·simp [h]
theorem F_ {m : List (κ × β)} (h : (m.map (·.1)).Nodup) (k : κ) (v : β) : ((AU m k v).map (·.1)).Nodup := by
 induction m with
 | nil => simp [AU]
 | cons p t ih =>
  simp only [List.map_cons, List.nodup_cons] at h; simp only [AU]; by_cases hp : p.1 = k
  ·rw [if_pos hp]; simp only [List.map_cons, List.nodup_cons]; exact ⟨hp ▸ h.1, h.2⟩
  ·rw [if_neg hp]; simp only [List.map_cons, List.nodup_cons]; refine ⟨fun hm => ?_, ih h.2⟩; rcases Vl.1 hm with e | e
   ·exact hp e
   ·exact h.1 e
theorem Vm {m : List (κ × β)} {k : κ} : (GA m k).Sublist m := by
 induction m with
 | nil => exact .slnil
 | cons p t ih =>
  simp only [GA]; split
  ·exact List.sublist_cons_self _ _
  ·exact ih.cons_cons _
theorem Ml {m : List (κ × β)} (h : (m.map (·.1)).Nodup) (k : κ) : ((GA m k).map (·.1)).Nodup := h.sublist (Vm.map _)
theorem O_ {m : List (κ × β)} (hd : (m.map (·.1)).Nodup) (k n : κ) : AY (GA m k) n = if n = k then none else AY m n := by
 induction m with
 | nil => simp [GA, AY]
 | cons p t ih =>
  simp only [List.map_cons, List.nodup_cons] at hd; simp only [GA]; by_cases h : p.1 = k
  ·rw [if_pos h]; by_cases hn : n = k
   ·subst hn; rw [if_pos rfl]; have := hd.1; rw [h, FZ] at this; simpa using this
   ·rw [if_neg hn]; simp only [AY]; rw [if_neg (fun e => hn (e.symm.trans h))]
  ·rw [if_neg h]; simp only [AY]; by_cases hn : p.1 = n
   ·rw [if_pos hn, if_pos hn, if_neg (fun e => h (hn.trans e))]
   ·rw [if_neg hn, if_neg hn]; exact ih hd.2
end
section
variable {α : Type} {hf uf : α → Str}
structure C9 (hf uf : α → Str) (m : List (Str × α)) (n : List (Str × Str)) (L : List α) : Prop where
  Vn : L.Pairwise fun a b => lt8 (hf a) (hf b)
  mn : (m.map (·.1)).Nodup
  nn : (n.map (·.1)).Nodup
  mg : ∀ h x, AY m h = some x ↔ x ∈ L ∧ hf x = h
  ng : ∀ u h, AY n u = some h ↔ ∃ x, x ∈ L ∧ uf x = u ∧ hf x = h
  uu : L.Pairwise fun a b => ¬ uf a = uf b
variable {m : List (Str × α)} {n : List (Str × Str)} {L : List α}
theorem C9.nil : C9 hf uf [] [] [] := ⟨by simp, by simp, by simp, by simp [AY], by simp [AY], by simp⟩
theorem C9.P0 (t : C9 hf uf m n L) : SR (L.map hf) := List.pairwise_map.2 t.Vn
theorem C9.keys (t : C9 hf uf m n L) (h : Str) : h ∈ m.map (·.1) ↔ h ∈ L.map hf := by
 rw [FZ, Option.isSome_iff_exists, List.mem_map]; exact ⟨fun ⟨x, hx⟩ => ⟨x, (t.mg h x).1 hx⟩, fun ⟨x, hx⟩ => ⟨x, (t.mg h x).2 hx⟩⟩
theorem C9.len (t : C9 hf uf m n L) : m.length = L.length := by
 have := ((List.perm_ext_iff_of_nodup t.mn (GV t.P0)).2 t.keys).length_eq; simpa using this
theorem C9.sort (t : C9 hf uf m n L) : Df (m.map (·.1)) = L.map hf :=
  Mk (Qv t.mn) t.P0 fun x => by rw [SS]; exact t.keys x
theorem C9.inj (t : C9 hf uf m n L) {x y : α} (hx : x ∈ L) (hy : y ∈ L) (e : hf x = hf y) : x = y := by
 have h1 := (t.mg (hf x) x).2 ⟨hx, rfl⟩; have h2 := (t.mg (hf x) y).2 ⟨hy, e.symm⟩; rw [h1] at h2; exact Option.some.inj h2
theorem C9.jr (t : C9 hf uf m n L) {x y : α} (hx : x ∈ L) (hy : y ∈ L) (e : uf x = uf y) : x = y := by
 have h1 := (t.ng (uf x) (hf x)).2 ⟨x, hx, rfl, rfl⟩; have h2 := (t.ng (uf x) (hf y)).2 ⟨y, hy, e.symm, rfl⟩; rw [h1] at h2; exact t.inj hx hy (Option.some.inj h2)
theorem C9.get (t : C9 hf uf m n L) {x : α} (hx : x ∈ L) : AY m (hf x) = some x := (t.mg _ _).2 ⟨hx, rfl⟩
theorem C9.jt (t : C9 hf uf m n L) {x : α} (hx : x ∈ L) : AY n (uf x) = some (hf x) := (t.ng _ _).2 ⟨x, hx, rfl, rfl⟩
theorem C9.nothing (t : C9 hf uf m n L) {h : Str} : AY m h = none ↔ ∀ x ∈ L, ¬ hf x = h := by
 rw [Option.eq_none_iff_forall_ne_some]; exact ⟨fun q x hx e => q x ((t.mg h x).2 ⟨hx, e⟩), fun q x e => q x ((t.mg h x).1 e).1 ((t.mg h x).1 e).2⟩
theorem C9.Vo (t : C9 hf uf m n L) {u : Str} : AY n u = none ↔ ∀ x ∈ L, ¬ uf x = u := by
 rw [Option.eq_none_iff_forall_ne_some]; exact ⟨fun q x hx e => q (hf x) ((t.ng u _).2 ⟨x, hx, e, rfl⟩), fun q h e => by obtain ⟨x, h1, h2, _⟩ := (t.ng u h).1 e; exact q x h1 h2⟩
def GW (hf : α → Str) (h : Str) : List α → Nat
  | [] => 0
  | y :: l => if lt8 (hf y) h then GW hf h l + 1 else 0
theorem NL (h : Str) : ∀ l : List α, GW hf h l ≤ l.length
  | [] => Nat.le_refl _
  | y :: l => by
    have := NL h l
    simp only [GW, List.length_cons]
    split <;> omega
def ES (hf : α → Str) (x : α) (l : List α) : List α := l.take (GW hf (hf x) l) ++ x :: l.drop (GW hf (hf x) l)
theorem Dv {x y : α} {l : List α} : y ∈ ES hf x l ↔ y = x ∨ y ∈ l := by
 conv => rhs; rw [← List.take_append_drop (GW hf (hf x) l) l]
 simp only [ES, List.mem_append, List.mem_cons]; constructor
 ·rintro (h | h | h)
  ·exact .inr (.inl h)
  ·exact .inl h
  ·exact .inr (.inr h)
 ·rintro (h | h | h)
  ·exact .inr (.inl h)
  ·exact .inl h
  ·exact .inr (.inr h)
theorem Vp (x : α) (l : List α) : (ES hf x l).length = l.length + 1 := by
 have := NL (hf := hf) (hf x) l; simp only [ES, List.length_append, List.length_cons, List.length_take, List.length_drop]; omega
theorem SU (x y : α) (l : List α) : ES hf x (y :: l) = if lt8 (hf y) (hf x) then y :: ES hf x l else x :: y :: l := by
 unfold ES; simp only [GW]; split
 ·simp
 ·simp
theorem J1 {x : α} : ∀ {l : List α}, (l.Pairwise fun a b => lt8 (hf a) (hf b)) → (∀ y ∈ l, ¬ hf y = hf x) → (ES hf x l).Pairwise fun a b => lt8 (hf a) (hf b)
  | [], _, _ => by simp [ES, GW]
  | y :: l, h, hn => by
    rw [List.pairwise_cons] at h
    rw [SU]
    split
    · rename_i hy
      rw [List.pairwise_cons]
      refine ⟨fun z hz => ?_, J1 h.2 fun z hz => hn z (by simp [hz])⟩
      rcases Dv.1 hz with e | e
      · exact e ▸ hy
      · exact h.1 z e
    · rename_i hy
      have hxy := XQ hy (hn y (by simp))
      rw [List.pairwise_cons, List.pairwise_cons]
      refine ⟨fun z hz => ?_, h⟩
      rcases List.mem_cons.1 hz with e | e
      · exact e ▸ hxy
      · exact J0 hxy (h.1 z e)
theorem Mm (x : α) (l : List α) : (ES hf x l).Perm (x :: l) := by
 conv => rhs; rw [← List.take_append_drop (GW hf (hf x) l) l]
 exact List.perm_middle
theorem C9.add (t : C9 hf uf m n L) {x : α} (h1 : ∀ y ∈ L, ¬ hf y = hf x) (h2 : ∀ y ∈ L, ¬ uf y = uf x) : C9 hf uf (AU m (hf x) x) (AU n (uf x) (hf x)) (ES hf x L) := by
 refine ⟨J1 t.Vn h1, F_ t.mn _ _, F_ t.nn _ _, fun h y => ?_, fun u h => ?_, ?_⟩
 ·rw [Fy, Dv]; by_cases e : h = hf x
  ·rw [if_pos e]; constructor
   ·rintro q; cases q; exact ⟨.inl rfl, e.symm⟩
   ·rintro ⟨q | q, q2⟩
    ·rw [q]
    ·exact absurd (q2.trans e) (h1 y q)
  ·rw [if_neg e, t.mg]; constructor
   ·rintro ⟨q, q2⟩; exact ⟨.inr q, q2⟩
   ·rintro ⟨q | q, q2⟩
    ·subst q; exact absurd q2.symm e
    ·exact ⟨q, q2⟩
 ·rw [Fy]; by_cases e : u = uf x
  ·rw [if_pos e]; constructor
   ·rintro q; cases q; exact ⟨x, Dv.2 (.inl rfl), e.symm, rfl⟩
   ·rintro ⟨y, q, q2, q3⟩
    rcases Dv.1 q with q | q
    ·subst q; rw [q3]
    ·exact absurd (q2.trans e) (h2 y q)
  ·rw [if_neg e, t.ng]; constructor
   ·rintro ⟨y, q, q2⟩; exact ⟨y, Dv.2 (.inr q), q2⟩
   ·rintro ⟨y, q, q2, q3⟩
    rcases Dv.1 q with q | q
    ·subst q; exact absurd q2.symm e
    ·exact ⟨y, q, q2, q3⟩
 ·refine (Mm x L).pairwise_iff (fun {a b} h e => h e.symm) |>.2 ?_
  rw [List.pairwise_cons]; exact ⟨fun y hy e => h2 y hy e.symm, t.uu⟩
theorem C9.set (t : C9 hf uf m n L) {k : Nat} (hk : k < L.length) {x : α} (h1 : hf x = hf L[k]) (h2 : uf x = uf L[k]) : C9 hf uf (AU m (hf x) x) (AU n (uf x) (hf x)) (L.set k x) := by
 have hm : L.map hf = (L.set k x).map hf := by
  rw [List.map_set, h1]; apply List.ext_getElem
  ·simp
  ·intro i q q2; simp only [List.getElem_map, List.getElem_set]; split
   ·rename_i e; subst e; rfl
   ·rfl
 have hu : L.map uf = (L.set k x).map uf := by
  rw [List.map_set, h2]; apply List.ext_getElem
  ·simp
  ·intro i q q2; simp only [List.getElem_map, List.getElem_set]; split
   ·rename_i e; subst e; rfl
   ·rfl
 have hmem : ∀ y, y ∈ L.set k x ↔ y = x ∨ (y ∈ L ∧ ¬ hf y = hf x) := by
  intro y; constructor
  ·intro hy; obtain ⟨i, hi, e⟩ := List.getElem_of_mem hy; simp only [List.length_set] at hi; rw [List.getElem_set] at e; split at e
   ·exact .inl e.symm
   ·rename_i ne; subst e; refine .inr ⟨List.getElem_mem _, fun e => ne ?_⟩; rw [h1] at e; have := List.getElem_inj (GV t.P0) (i := i) (j := k) (h₀ := by simpa using hi) (h₁ := by simpa using hk); simp only [List.getElem_map] at this; exact (this.1 e).symm
  ·rintro (e | ⟨q, q2⟩)
   ·subst e; exact List.mem_set hk y
   ·obtain ⟨i, hi, e⟩ := List.getElem_of_mem q; have hne : ¬ k = i := by
     intro e2; subst e2; subst e; exact q2 h1.symm
    have : (L.set k x)[i]'(by simpa using hi) = y := by rw [List.getElem_set, if_neg hne, e]
    rw [← this]; exact List.getElem_mem _
 have hLk : L[k] ∈ L := List.getElem_mem _; refine ⟨?_, F_ t.mn _ _, F_ t.nn _ _, fun h y => ?_, fun u h => ?_, ?_⟩
 ·have := t.P0; rw [hm] at this; exact List.pairwise_map.1 this
 ·rw [Fy, hmem]; by_cases e : h = hf x
  ·rw [if_pos e]; constructor
   ·rintro q; cases q; exact ⟨.inl rfl, e.symm⟩
   ·rintro ⟨q | q, q2⟩
    ·rw [q]
    ·exact absurd (q2.trans e) q.2
  ·rw [if_neg e, t.mg]; constructor
   ·rintro ⟨q, q2⟩; exact ⟨.inr ⟨q, fun q3 => e (q2.symm.trans q3)⟩, q2⟩
   ·rintro ⟨q | q, q2⟩
    ·subst q; exact absurd q2.symm e
    ·exact ⟨q.1, q2⟩
 ·rw [Fy]; by_cases e : u = uf x
  ·rw [if_pos e]; constructor
   ·rintro q; cases q; exact ⟨x, (hmem _).2 (.inl rfl), e.symm, rfl⟩
   ·rintro ⟨y, q, q2, q3⟩
    rcases (hmem _).1 q with q | q
    ·subst q; rw [q3]
    ·have := t.jr q.1 hLk (q2.trans (e.trans h2)); exact absurd (this ▸ h1.symm) q.2
  ·rw [if_neg e, t.ng]; constructor
   ·rintro ⟨y, q, q2, q3⟩
    refine ⟨y, (hmem _).2 (.inr ⟨q, fun q4 => e ?_⟩), q2, q3⟩; have := t.inj q hLk (q4.trans h1); subst this; exact q2.symm.trans h2.symm
   ·rintro ⟨y, q, q2, q3⟩
    rcases (hmem _).1 q with q | q
    ·subst q; exact absurd q2.symm e
    ·exact ⟨y, q.1, q2, q3⟩
 ·have h3 : (L.map uf).Pairwise fun a b => ¬ a = b := List.pairwise_map.2 t.uu; rw [hu] at h3; exact List.pairwise_map.1 h3
theorem C9.drop (t : C9 hf uf m n L) {k : Nat} (hk : k < L.length) : C9 hf uf (GA m (hf L[k])) (GA n (uf L[k])) (L.take k ++ L.drop (k + 1)) := by
 have hLk : L[k] ∈ L := List.getElem_mem _; have hs : (L.take k ++ L.drop (k + 1)).Sublist L := by
  conv => rhs; rw [← List.take_append_drop k L, List.drop_eq_getElem_cons hk]
  exact List.Sublist.append_left (List.sublist_cons_self _ _) _
 have hmem : ∀ y, y ∈ L.take k ++ L.drop (k + 1) ↔ (y ∈ L ∧ ¬ hf y = hf L[k]) := by
  intro y; have hp : L.Perm (L[k] :: (L.take k ++ L.drop (k + 1))) := by
   conv => lhs; rw [← List.take_append_drop k L, List.drop_eq_getElem_cons hk]
   exact List.perm_middle
  have hr : (L[k] :: (L.take k ++ L.drop (k + 1))).Pairwise fun a b => ¬ hf a = hf b := by
   refine (hp.pairwise_iff (fun {a b} h e => h e.symm)).1 ?_; refine t.Vn.imp fun {a b} h e => ?_; rw [e] at h; exact CR _ h
  rw [List.pairwise_cons] at hr; constructor
  ·intro hy; exact ⟨hs.subset hy, fun e => hr.1 y hy e.symm⟩
  ·rintro ⟨q, q2⟩
   rcases List.mem_cons.1 (hp.mem_iff.1 q) with e | e
   ·exact absurd (by rw [e]) q2
   ·exact e
 refine ⟨t.Vn.sublist hs, Ml t.mn _, Ml t.nn _, fun h y => ?_, fun u h => ?_, t.uu.sublist hs⟩
 ·rw [O_ t.mn, hmem]; by_cases e : h = hf L[k]
  ·rw [if_pos e]; constructor
   ·intro q; cases q
   ·rintro ⟨q, q2⟩; exact absurd (q2.trans e) q.2
  ·rw [if_neg e, t.mg]; constructor
   ·rintro ⟨q, q2⟩; exact ⟨⟨q, fun q3 => e (q2.symm.trans q3)⟩, q2⟩
   ·rintro ⟨q, q2⟩; exact ⟨q.1, q2⟩
 ·rw [O_ t.nn]; by_cases e : u = uf L[k]
  ·rw [if_pos e]; constructor
   ·intro q; cases q
   ·rintro ⟨y, q, q2, q3⟩
    have := t.jr ((hmem y).1 q).1 hLk (q2.trans e); exact absurd (by rw [this]) ((hmem y).1 q).2
  ·rw [if_neg e, t.ng]; constructor
   ·rintro ⟨y, q, q2, q3⟩
    refine ⟨y, (hmem _).2 ⟨q, fun q4 => e ?_⟩, q2, q3⟩; have := t.inj q hLk q4; subst this; exact q2.symm
   ·rintro ⟨y, q, q2, q3⟩; exact ⟨y, ((hmem y).1 q).1, q2, q3⟩
end
section
variable {α : Type}
def Le (p : α → Bool) (l : List α) : Int := match l.findIdx? p with | some i => (i : Int) | none => -1
theorem Mn {p : α → Bool} {l : List α} (h : ∀ x ∈ l, p x = false) : Le p l = -1 := by
 unfold Le; rw [List.findIdx?_eq_none_iff.2 h]
theorem Lf (p : α → Bool) (l : List α) : (Le p l = -1 ∧ ∀ x ∈ l, p x = false) ∨ ∃ k : Nat, ∃ h : k < l.length, Le p l = (k : Int) ∧ p l[k] = true := by
 unfold Le; cases hf : l.findIdx? p with
 | none => exact .inl ⟨rfl, List.findIdx?_eq_none_iff.1 hf⟩
 | some k =>
  obtain ⟨h1, h2, _⟩ := List.findIdx?_eq_some_iff_getElem.1 hf; exact .inr ⟨k, h1, rfl, h2⟩
end
end Go.Idl
namespace Go.Idl
open Go
def B_ (x : S89) : Bool := BX x.fType && decide (x.fType.map C8 = x.fType) && decide (1 ≤ x.Aa.length ∧ x.Aa.length ≤ 200)
def Bt (d : List S89) : Bool := decide (d.length ≤ 16) && d.all B_
def Qw (d : List S89) : Prop := d.length ≤ 1000000 ∧ ∀ x, x ∈ d → x.fType.length ≤ 1000000 ∧ x.Aa.length ≤ 1000000
theorem Vq (s : Str) (h : s.length ≤ 1000000) : F81 s = some (s.map C8) := A9 (by omega)
theorem bS (x : S89) (h : x.fType.length ≤ 1000000 ∧ x.Aa.length ≤ 1000000) : F79 x = some (B_ x) := by
 unfold F79 B_; rw [Vk _ h.1, Vq _ h.1]; simp only [Option.bind_some]; by_cases h1 : BX x.fType = true
 ·rw [if_pos h1, h1]; by_cases h2 : x.fType.map C8 = x.fType
  ·rw [if_pos h2, decide_eq_true h2]; by_cases h3 : (1 : Int) ≤ x.Aa.length
   ·rw [if_pos h3]; congr 1; simp only [Bool.true_and]; rw [decide_eq_decide]; omega
   ·rw [if_neg h3, decide_eq_false (p := 1 ≤ x.Aa.length ∧ _) (by omega)]; rfl
  ·rw [if_neg h2, decide_eq_false h2]; simp
 ·rw [if_neg h1, Bool.eq_false_iff.2 h1]; simp
theorem XR (d : List S89) (h : Qw d) : UH d = some (!d.all B_) := by
 unfold UH Xv; obtain ⟨j, hj, hf⟩ := Mj B_ d 0
 rw [CQ d (fun i x => if B_ x = true then none else some (.inr (i : Int))) (.inl ()) (by have := h.1; omega)
   (fun i hi => by
     simp only [HL, Xt]
     rw [if_pos (by omega), A9 (by omega), Int.toNat_natCast, getD_some hi, bS _ (h.2 _ (List.getElem_mem _))]
     simp only [Option.bind_some]
     cases B_ d[i] <;> simp)
   (by simp only [HL]; rw [if_neg (by omega)]), hf]
 by_cases h1 : d.all B_ = true
 ·rw [if_pos h1, h1]; simp [JO]
 ·rw [if_neg h1, Bool.eq_false_iff.2 h1]; simp [hj]
theorem Vr (d : List S89) (h : Qw d) : F54 d = some (if Bt d = true then 0 else 2) := by
 unfold F54 Bt; by_cases h1 : (16 : Int) < d.length
 ·rw [if_pos h1, decide_eq_false (by omega)]; simp
 ·rw [if_neg h1, decide_eq_true (by omega)]; unfold F82; rw [XR d h]; simp only [Option.bind_some, Bool.not_not, Bool.true_and]; by_cases h2 : d.all B_ = true
  ·rw [if_neg (by simpa using h2), if_pos h2]
  ·rw [if_pos h2, if_neg h2]
theorem P3 {f : UInt8 → UInt8} : ∀ (l acc : Str) (k : Nat), NH (fun _ (a : Str) x => (.inl (a ++ [f x]) : Str ⊕ Str)) id k acc l = acc ++ l.map f
  | [], acc, _ => by simp [NH]
  | x :: l, acc, k => by
    rw [Mi]
    simp only
    rw [P3 l]
    simp
theorem XS (s : Str) (h : s.length ≤ 1000000) : UU s = some (s.map C8) := by
 unfold UU; have key := SK (l := s) (step := fun (s_1 : Str × Int) => FV s s_1.1 s_1.2) (fun _ (a : Str) x => (.inl (a ++ [C8 x]) : Str ⊕ Str)) id (fun i a => a.length = i) (a := []) (by omega) rfl
  (fun i hi a hI => by
    simp only [FV]
    rw [if_pos (by omega), A9 (by omega), Int.toNat_natCast, getD_some hi]
    generalize s[i] = x
    obtain ⟨e1, e2⟩ := HG x
    have hx := x.toNat_lt
    by_cases h1 : (65 : Int) ≤ x.toNat
    · rw [if_pos h1]
      by_cases h2 : (x.toNat : Int) ≤ 90
      · have hw : IntKind.u8.wrap ((x.toNat : Int) + 32) = (x.toNat : Int) + 32 := wrap_u8 (by omega) (by omega)
        have e3 := e1 ⟨h1, h2⟩
        rw [if_pos h2, hw, A9 (by omega), A9 (by simp; omega)]
        have e4 : ((x.toNat : Int) + 32).toNat = (C8 x).toNat := by omega
        rw [e4, UInt8.ofNat_toNat]
      · rw [if_neg h2, A9 (by omega), A9 (by simp; omega), Int.toNat_natCast, UInt8.ofNat_toNat, e2 (by omega)]
    · rw [if_neg h1, A9 (by omega), A9 (by simp; omega), Int.toNat_natCast, UInt8.ofNat_toNat, e2 (by omega)])
  (fun i hi a a' hI e => by cases e; simp [hI])
  (fun a hI => by simp only [FV]; rw [if_neg (by omega)]; rfl)
 rw [key, P3]; simp [JX]
theorem bT (d : List S89) (h : Qw d) : F73 d = some (Bt d) := by
 unfold F73 Bt; by_cases h1 : (16 : Int) < d.length
 ·rw [if_pos h1, decide_eq_false (by omega)]; simp
 ·rw [if_neg h1, decide_eq_true (by omega), BP d B_ (by omega)
    (fun i hi => by
      have hb := h.2 _ (List.getElem_mem hi)
      simp only [L6]
      rw [if_pos (by omega), A9 (by omega), Int.toNat_natCast, getD_some hi, XP _ hb.1, XS _ hb.1]
      simp only [Option.bind_some]
      unfold B_
      by_cases a1 : BX d[i].fType = true
      · rw [if_neg (by simpa using a1), a1]
        by_cases a2 : (d[i].Aa.length : Int) < 1
        · rw [if_pos a2, decide_eq_false (p := 1 ≤ d[i].Aa.length ∧ _) (by omega)]; simp
        · rw [if_neg a2]
          by_cases a3 : (200 : Int) < d[i].Aa.length
          · rw [if_pos a3, decide_eq_false (p := 1 ≤ d[i].Aa.length ∧ _) (by omega)]; simp
          · rw [if_neg a3, decide_eq_true (p := 1 ≤ d[i].Aa.length ∧ _) (by omega)]
            by_cases a4 : d[i].fType.map C8 = d[i].fType
            · rw [if_neg (by simpa using a4), decide_eq_true a4]; simp
            · rw [if_pos a4, decide_eq_false a4]; simp
      · rw [if_pos a1, Bool.eq_false_iff.2 a1]; simp)
    (by simp only [L6]; rw [if_neg (by omega)])]
  by_cases h2 : d.all B_ = true
  ·simp [h2, Nx]
  ·rw [if_neg h2, Bool.eq_false_iff.2 h2]; simp
theorem bU (a b : List S89) (ha : a.length ≤ 1000000) : F51 a b = some (decide (a = b)) := by
 unfold F51; by_cases hl : (a.length : Int) = b.length
 ·rw [if_neg (by simpa using hl)]; have hl' : a.length = b.length := by omega
  obtain ⟨r, h1, h2⟩ := Dj (step := fun (s : Int) => IS a b s) (Post := fun y => (y = .inl () ∧ a = b) ∨ (y = .inr false ∧ ¬ a = b)) a.length (fun i => a.take i = b.take i) (by simp)
   (fun i hi hI => by
     have hw := AS (i := i) (by omega)
     have hib : i < b.length := by omega
     simp only [IS]
     rw [if_pos (by omega), A9 (by omega), A9 (by omega), Int.toNat_natCast, getD_some hi, getD_some hib, hw]
     by_cases e : a[i].fType = b[i].fType ∧ a[i].Aa = b[i].Aa
     · rw [if_neg (by simpa using e)]
       refine .inl ⟨rfl, ?_⟩
       have e' : a[i] = b[i] := by
         cases ha' : a[i] with | mk t v => cases hb' : b[i] with | mk t' v' => rw [ha', hb'] at e; simp at e; rw [e.1, e.2]
       rw [List.take_succ_eq_append_getElem hi, List.take_succ_eq_append_getElem hib, hI, e']
     · rw [if_pos e]
       refine .inr ⟨_, rfl, .inr ⟨rfl, fun q => e ?_⟩⟩
       subst q
       exact ⟨rfl, rfl⟩)
   (fun hI => by
     simp only [IS]
     rw [if_neg (by omega)]
     refine ⟨_, rfl, .inl ⟨rfl, ?_⟩⟩
     rwa [List.take_of_length_le (Nat.le_refl _), List.take_of_length_le (by omega)] at hI)
  rw [h1]; rcases h2 with ⟨rfl, h⟩ | ⟨rfl, h⟩
  ·simp [Ny, h]
  ·simp [h]
 ·rw [if_pos hl, decide_eq_false (fun e => hl (by rw [e]))]
theorem Vs (a b : List (List Str)) (ha : a.length = 8) (hb : b.length = 8) : F48 a b = some (decide (a = b)) := A9 ⟨ha, hb⟩
theorem bV (a b : S39) (ha : a.A5.length = 8) (hb : b.A5.length = 8) : F19 a b = some (decide (a = b)) := by
 unfold F19; rw [A9 ha, A9 hb, Vs _ _ ha hb]; obtain ⟨h, u, s⟩ := a; obtain ⟨h', u', s'⟩ := b; simp only [S39.mk.injEq, Option.bind_some]; by_cases e1 : h = h'
 ·by_cases e2 : u = u'
  ·simp [e1, e2]
  ·simp [e1, e2]
 ·simp [e1]
theorem bW (a b : S33) (ha : a.A5.length = 8) (hb : b.A5.length = 8) (hd : a.fDn.length ≤ 1000000) : F25 a b = some (decide (a = b)) := by
 unfold F25; rw [A9 ha, A9 hb, Vs _ _ ha hb, bU _ _ hd]; obtain ⟨h, u, d, s⟩ := a; obtain ⟨h', u', d', s'⟩ := b; simp only [S33.mk.injEq, Option.bind_some]; by_cases e1 : h = h'
 ·by_cases e2 : u = u'
  ·by_cases e3 : d = d'
   ·simp [e1, e2, e3]
   ·simp [e1, e2, e3]
  ·simp [e1, e2]
 ·simp [e1]
theorem FA {α : Type} (p : α → Bool) : ∀ (l : List α) (k : Nat), CD (fun i x => if p x = true then some (.inr (i : Int)) else none) (.inl ()) k l = (match l.findIdx? p with | some j => (.inr ((k + j : Nat) : Int) : Unit ⊕ Int) | none => .inl ())
  | [], k => by simp [CD]
  | x :: l, k => by
    rw [Ce, List.findIdx?_cons]
    by_cases h : p x = true
    · simp [h]
    · simp only [h, if_false, Bool.false_eq_true]
      rw [FA p l (k + 1)]
      cases l.findIdx? p with
      | none => rfl
      | some j => simp; omega
def Bz (l : List S39) (h : Str) : Int := Le (fun x : S39 => decide (x.Ad = h)) l
def H_ (l : List S39) (u : Str) : Int := Le (fun x : S39 => decide (x.Am = u)) l
theorem Qx (l : List S39) (h : Str) (hl : l.length ≤ 1000000) : F15 l h = some (Bz l h) := by
 unfold F15
 rw [CQ l (fun i x => if decide (x.Ad = h) = true then some (.inr (i : Int)) else none) (.inl ()) (by omega)
   (fun i hi => by
     simp only [L3]
     rw [if_pos (by omega), A9 (by omega), Int.toNat_natCast, getD_some hi]
     by_cases e : l[i].Ad = h <;> simp [e])
   (by simp only [L3]; rw [if_neg (by omega)]), FA]
 unfold Bz Le; cases l.findIdx? (fun x : S39 => decide (x.Ad = h)) with
 | none => simp [Nv]
 | some j => simp
theorem bX (l : List S39) (u : Str) (hl : l.length ≤ 1000000) : F16 l u = some (H_ l u) := by
 unfold F16
 rw [CQ l (fun i x => if decide (x.Am = u) = true then some (.inr (i : Int)) else none) (.inl ()) (by omega)
   (fun i hi => by
     simp only [L5]
     rw [if_pos (by omega), A9 (by omega), Int.toNat_natCast, getD_some hi]
     by_cases e : l[i].Am = u <;> simp [e])
   (by simp only [L5]; rw [if_neg (by omega)]), FA]
 unfold H_ Le; cases l.findIdx? (fun x : S39 => decide (x.Am = u)) with
 | none => simp [Nw]
 | some j => simp
end Go.Idl
namespace Go.Idl
open Go
theorem Dw {α : Type} {l : List α} {i : Nat} {d : α} (h : i < l.length) : l.getD i d = l[i] := by rw [List.getD_eq_getElem?_getD, List.getElem?_eq_getElem h]; rfl
theorem byte_eq {a c : UInt8} : ((a.toNat : Int) = (c.toNat : Int)) ↔ a = c := by
 constructor
 ·intro h; exact UInt8.toNat_inj.1 (by omega)
 ·rintro rfl; rfl
theorem Lg {a : UInt8} {n : Nat} (c : UInt8) (hc : c.toNat = n) : ((a.toNat : Int) = (n : Int)) ↔ a = c := by
 rw [← hc]; exact byte_eq
theorem Qy {a : UInt8} : ((a.toNat : Int) = 10) ↔ a = 10 := Lg 10 rfl
theorem SV (s : Str) (c : UInt8) (hs : s.length ≤ 4294967280) : ∀ (k i : Nat), i + k = s.length → AE (fun v => J_ s (c.toNat : Int) v) (i : Int) = some (match B7 (s.drop i) c with | some p => .inr (s.take i ++ p.1, p.2, true) | none => .inl ())
  | 0, i, h => by
    rw [List.drop_of_length_le (by omega)]
    refine AG ?_
    simp only [J_]
    rw [if_neg (by omega)]
    rfl
  | k + 1, i, h => by
    have hi : i < s.length := by omega
    have hg : s.getD i 0 = s[i] := by rw [List.getD_eq_getElem?_getD, List.getElem?_eq_getElem hi]; rfl
    have hw : IntKind.i64.wrap ((i : Int) + 1) = ((i + 1 : Nat) : Int) := AS (by omega)
    rw [List.drop_eq_getElem_cons hi]
    unfold B7
    by_cases hc : s[i] = c
    · rw [if_pos hc]
      refine AG ?_
      simp only [J_]
      rw [if_pos (by omega), A9 (by omega), Int.toNat_natCast, hg, if_pos (byte_eq.2 hc), A9 (by omega), A9 (by omega), hw, A9 (by omega), A9 (by omega), Int.toNat_natCast]
      simp
    · rw [if_neg hc]
      rw [AZ (s' := ((i + 1 : Nat) : Int)), SV s c hs k (i + 1) (by omega)]
      · cases B7 (s.drop (i + 1)) c with
        | none => rfl
        | some p =>
          simp only [Option.map_some]
          rw [List.take_succ_eq_append_getElem hi]
          simp only [List.append_assoc, List.singleton_append]
      · simp only [J_]
        rw [if_pos (by omega), A9 (by omega), Int.toNat_natCast, hg, if_neg (fun e => hc (byte_eq.1 e)), hw]
theorem Rp (st : BC) (c : UInt8) (hs : st.AB.fs.length < 4294967281) : SH st (c.toNat : Int) = some (match B7 st.AB.fs c with | some p => (p.1, ⟨⟨p.2⟩, st.Bi⟩) | none => (st.AB.fs, ⟨⟨[]⟩, true⟩)) := by
 have hb := c.toNat_lt; unfold SH F65; rw [A9 (by omega), A9 (by omega), Int.toNat_natCast, UInt8.ofNat_toNat, Ro]; simp only [Option.bind_some]; cases B7 st.AB.fs c with
 | none => cases h : st.Bi <;> simp
 | some p => cases h : st.Bi <;> simp
theorem NM (st : BC) (s : Str) (m : Nat) (hm : m ≤ 9999) (hs : s.length ≤ 281474976710656) : SI st s (m : Int) = some (match HY s m with | some n => ((n : Int), st) | none => (0, ⟨st.AB, true⟩)) := by
 have noN : (∀ n, 1 ≤ n → n ≤ m → Lib.decDigits n ≠ s) → (match HY s m with | some n => ((n : Int), st) | none => ((0 : Int), (⟨st.AB, true⟩ : BC))) = (0, ⟨st.AB, true⟩) := fun h => by rw [SM h]
 unfold SI bN; rw [A9 (by omega)]; simp only [Option.bind_some]; have hat : ∀ n, n ≤ m → Lib.decDigits n = s → D4 s = ((n : Int), false) := fun n hn e => by rw [← e]; exact Ve n (by omega)
 by_cases h1 : (D4 s).2 = true
 ·rw [if_pos h1, noN]; intro n _ hn e; rw [hat n hn e] at h1; cases h1
 ·rw [if_neg h1]; by_cases h2 : (D4 s).1 < 1
  ·rw [if_pos h2, noN]; intro n h0 hn e; rw [hat n hn e] at h2; simp only at h2; omega
  ·rw [if_neg h2]; by_cases h3 : (m : Int) < (D4 s).1
   ·rw [if_pos h3, noN]; intro n h0 hn e; rw [hat n hn e] at h3; simp only at h3; omega
   ·rw [if_neg h3]; unfold F95; rw [A9 (by omega)]; simp only [Option.bind_some]; obtain ⟨v, hv⟩ : ∃ v : Nat, (D4 s).1 = v := ⟨(D4 s).1.toNat, by omega⟩; rw [hv, Mc]; by_cases h4 : Lib.decDigits v = s
    ·rw [if_neg (by simp [h4]), (Cj (s := s) (m := m) (n := v)).2 ⟨by omega, by omega, h4⟩]
    ·rw [if_pos h4, noN]; intro n h0 hn e; rw [hat n hn e] at hv; simp only at hv; exact h4 (by rw [show v = n by omega]; exact e)
theorem Ia (st : BC) (hs : st.AB.fs.length < 4294967281) : ∃ x st', XH st = some (x, st') ∧ st'.AB.fs.length ≤ st.AB.fs.length ∧ (st.Bi = true → st'.Bi = true) ∧
    (st.Bi = false → match NJ 200 st.AB.fs with | some p => x = p.1 ∧ st' = ⟨⟨p.2⟩, false⟩ | none => st'.Bi = true) := by
 unfold XH NJ; have e := Rp st 32 hs; rw [show (((32 : UInt8).toNat : Nat) : Int) = 32 from rfl] at e; rw [e]; simp only [Option.bind_some]; cases hc : B7 st.AB.fs 32 with
 | none =>
  simp only [Option.bind_none]; rw [show (200 : Int) = ((200 : Nat) : Int) from rfl, NM _ _ 200 (by omega) (by omega)]; simp only [Option.bind_some]; cases HY st.AB.fs 200 with
  | none =>
   simp only; rw [if_pos (by simp)]; exact ⟨_, _, rfl, by simp, fun _ => rfl, fun _ => rfl⟩
  | some n =>
   simp only; rw [if_pos (by simp)]; exact ⟨_, _, rfl, by simp, fun _ => rfl, fun _ => rfl⟩
 | some p =>
  obtain ⟨a, b⟩ := p; have hl := Fv hc; simp only [Option.bind_some]; rw [show (200 : Int) = ((200 : Nat) : Int) from rfl, NM _ _ 200 (by omega) (by omega)]; simp only [Option.bind_some]; cases hn : HY a 200 with
  | none =>
   simp only [Option.bind_none]; exact ⟨[], ⟨⟨b⟩, true⟩, by simp, by simp only; omega, fun _ => rfl, fun _ => rfl⟩
  | some n =>
   have hn2 := (Cj.1 hn).2.1; simp only [Option.bind_some]; cases hbad : st.Bi with
   | true =>
    rw [if_pos (by rfl)]; exact ⟨_, _, rfl, by simp only; omega, fun _ => rfl, fun e => by cases e⟩
   | false =>
    rw [if_neg (by simp)]; by_cases hb : (b.length : Int) ≤ n
    ·rw [if_pos hb, if_neg (by omega)]; exact ⟨_, _, rfl, by simp only; omega, fun _ => rfl, fun _ => rfl⟩
    ·rw [if_neg hb, A9 (by omega), Int.toNat_natCast]; by_cases h10 : b.getD n 0 = 10
     ·rw [if_neg (by rw [h10]; simp), A9 (by omega), A9 (by omega), AS (by omega), A9 (by omega), A9 (by omega), Int.toNat_natCast, if_pos ⟨by omega, h10⟩]; exact ⟨_, _, rfl, by simp; omega, fun e => (by cases e), fun _ => ⟨rfl, rfl⟩⟩
     ·rw [if_pos (fun e => h10 (Qy.1 e)), if_neg (fun e => h10 e.2)]; exact ⟨_, _, rfl, by simp only; omega, fun _ => rfl, fun _ => rfl⟩
theorem SW : ∀ (n : Nat) (acc : Str), acc.length + n ≤ 1000000000000000000 → AE (fun v : Int × (List UInt8) => FW v.1 v.2) ((n : Int), acc) = some (Lib.decDigits n ++ acc) := by
 intro n
 induction n using Nat.strongRecOn with
 | _ n ih =>
  intro acc h; have hm : ((n : Int)).tmod 10 = ((n % 10 : Nat) : Int) := by rw [Int.tmod_eq_emod_of_nonneg (by omega)]; omega
  have hd : ((n : Int)).tdiv 10 = ((n / 10 : Nat) : Int) := by rw [Int.tdiv_eq_ediv_of_nonneg (by omega)]; omega
  have hw : IntKind.i64.wrap (48 + ((n % 10 : Nat) : Int)) = ((48 + n % 10 : Nat) : Int) := by rw [wrap_i64 (by omega) (by omega)]; omega
  have hw8 : IntKind.u8.wrap ((48 + n % 10 : Nat) : Int) = ((48 + n % 10 : Nat) : Int) := wrap_u8 (by omega) (by omega); have hwd : IntKind.i64.wrap ((n / 10 : Nat) : Int) = ((n / 10 : Nat) : Int) := wrap_i64 (by omega) (by omega); have hs : FW (n : Int) acc = some (if n < 10 then .inr ([UInt8.ofNat (48 + n % 10)] ++ acc) else .inl (((n / 10 : Nat) : Int), [UInt8.ofNat (48 + n % 10)] ++ acc)) := by
   unfold FW; rw [hm, hd, hw, hw8, hwd, Int.toNat_natCast, A9 (by omega), A9 (by simp only [List.length_cons, List.length_nil]; omega)]; by_cases hn : n < 10
   ·rw [if_pos hn, if_pos (by omega)]
   ·rw [if_neg hn, if_neg (by omega)]
  rw [Lib.decDigits]; by_cases hn : n < 10
  ·rw [if_pos hn] at hs; rw [dif_pos hn, show n % 10 = n by omega] at *; exact AG hs
  ·rw [if_neg hn] at hs; rw [dif_neg hn, AZ (s := ((n : Int), acc)) hs, ih (n / 10) (by omega) _ (by simp; omega)]; simp
theorem Rq (n : Nat) (h : n ≤ 1000000000) : SJ (n : Int) = some (Lib.decDigits n) := by
 unfold SJ; rw [SW n [] (by simp; omega)]; simp
theorem Lh (nm : Str) : ∀ (l : List Str) (i : Nat), CD (fun (k : Nat) (x : Str) => if nm = x then some (Sum.inr (k : Int) : Unit ⊕ Int) else none) (.inl ()) i l = match l.findIdx? (fun x => decide (x = nm)) with | some j => .inr ((i + j : Nat) : Int) | none => .inl ()
  | [], i => rfl
  | x :: l, i => by
    rw [Ce, List.findIdx?_cons]
    by_cases e : nm = x
    · simp [e]
    · have e' : ¬ x = nm := fun h => e h.symm
      rw [if_neg e, Lh nm l (i + 1)]
      simp only [e', decide_false, Bool.false_eq_true, if_false]
      cases l.findIdx? (fun x => decide (x = nm)) with
      | none => rfl
      | some j => simp; omega
theorem XT (nm : Str) : XI Ba nm = some (match IZ nm with | some i => (i : Int) | none => -1) := by
 unfold XI
 have h := CQ (step := fun v => FX Ba nm v) Ba (fun i x => if nm = x then some (.inr (i : Int)) else none) (.inl ()) (by simp [Ba]) (fun i hi => by
   simp only [FX]
   rw [if_pos (by omega), A9 (by omega), Int.toNat_natCast, Dw hi]
   by_cases e : nm = Ba[i]
   · rw [if_pos e, if_pos e]
   · rw [if_neg e, if_neg e]) (by simp only [FX]; rw [if_neg (by omega)])
 rw [h, Lh]; unfold IZ; cases Ba.findIdx? (fun x => decide (x = nm)) with
 | none => rfl
 | some j => simp
end Go.Idl
namespace Go.Idl
open Go Go.RowKit Go.Lib
variable {P : Program} {N : Nat} {tm : Tm} {H : A2}
theorem Li {o : Oper} {K : IV → A2 → Prop} {Qp : List PanicEntry → A2 → Prop} {ts : Array TypeId} {x y : Operand} {k : IntKind} {a b : Int} (ho : o.op = .call { callee := .builtin .max, args := #[x, y], argTypes := ts }) (hok : okO N o = true)
    (hx : ev tm x = .v (.int k a)) (hy : ev tm y = .v (.int k b)) (hK : K (.v (.int k (max a b))) H) : AD P N o tm H K Qp := by
 obtain ⟨dst, op, type, pos, after, guard⟩ := o; simp only at ho; subst ho; refine B3 (by simp) fun w g ac sm r hN => ?_; subst hN; have rx := r.ev (x := x) (by simp [okO, Op.operands] at hok; simpa [Call.operands] using hok.1 0 (by simp [Call.operands])); have ry := r.ev (x := y) (by simp [okO, Op.operands] at hok; simpa [Call.operands] using hok.1 1 (by simp [Call.operands])); rw [hx] at rx; rw [hy] at ry; have ex := rx.v_eq; have ey := ry.v_eq; refine ⟨.int k (max a b), w, g, H, _, .inl ?_, .refl _ _, sm, .v _, hK⟩; have em := run_max_ints (P := P) w ts type k k a b; rw [← ex, ← ey] at em; simp [execOp, resolve, invoke, BigFrame.builtin_max, em]
end Go.Idl
namespace Go.Idl
open Go Go.Proofs.Tryz Go.RowKit
variable {H : A2} {K : Aw → A2 → Prop}
set_option pp.deepTerms false in
set_option maxRecDepth 8000 in
theorem Vt (nm : List UInt8) (hK : K (.ret (.tu [.v (.int .i64 (match IZ nm with | some i => (i : Int) | none => 0)), .v (.bool (IZ nm).isSome)])) H) : Ac prog 102 [.v (str nm)] H K := by
 refine AP (N := 14) func102 (by kernel_rfl) rfl (by kernel_rfl) (by kernel_rfl) fun hw hbd hnb => ?_; simp (maxSteps := 1000000) (disch := omega) [go_sem]; refine R7 ?_; have hn8 : Da.length = 8 := rfl; have hdr : ∀ l : List IV, l.length = 8 → List.drop 8 l = [] := fun l h => List.drop_of_length_le (by omega); simp (maxSteps := 1000000) (disch := omega) [go_sem, hn8, hdr]; have e : (.sl 1 (Ba.map fun x => [.v (str x)]) : IV) = .sl 1 (chunks 1 8 ((Ba.map fun x => IV.v (str x)).drop 0)) := by
  rw [List.drop_zero, DK (by simp [Ba])]; simp
 refine HB (args' := [.sl 1 (Ba.map fun x => [.v (str x)]), .v (str nm)]) (.cons ?_ (.cons (.same (.v _)) .nil)) (fun H K hK => XJ Ba nm (XT nm) hK) ?_
 ·rw [e]; exact Fz.bs _ 0 8 1 (Ba.map fun x => IV.v (str x)) (Ba.map fun x => IV.v (str x)) rfl (by simp [go_sem]; rfl) rfl (by simp [Ba]) (by simp [Cm]) (fzs (by simp [Sn]))
 have hj : ∀ i, IZ nm = some i → i < 8 := fun i h => NK h; cases hf : IZ nm with
 | none =>
  rw [hf] at hK; simp (maxSteps := 1000000) (disch := omega) [go_sem]; refine Li (k := .i64) (a := 0) (b := -1) rfl (by kernel_rfl) (by simp [go_sem]) (by simp [go_sem]) ?_; simp (maxSteps := 1000000) (disch := omega) [go_sem]; exact AN (((Ext.refl hw).new _).set (Nat.le_refl _) _) (Ff (NBL.cons (.v _) (NBL.cons (.v _) NBL.nil))) hK
 | some i =>
  rw [hf] at hK; have := hj i hf; simp (maxSteps := 1000000) (disch := omega) [go_sem]; refine Li (k := .i64) (a := 0) (b := i) rfl (by kernel_rfl) (by simp [go_sem]) (by simp [go_sem]) ?_; rw [show max (0 : Int) (i : Int) = i by omega]; simp (maxSteps := 1000000) (disch := omega) [go_sem]; exact AN (((Ext.refl hw).new _).set (Nat.le_refl _) _) (Ff (NBL.cons (.v _) (NBL.cons (.v _) NBL.nil))) hK
end Go.Idl
namespace Go.Idl
open Go Go.Proofs.Tryz Go.RowKit
variable {H : A2} {K : Aw → A2 → Prop}
noncomputable def Ib (s : Str) : Option (List (List Str)) := E2 s.length 0 s BS
noncomputable def GX (s : Str) : List (List Str) × Int := match Ib s with | some c => if AH c = true then (c, 0) else (BS, 260) | none => (BS, 260)
theorem Vu (st : BC) (c : UInt8) (hs : st.AB.fs.length ≤ 4000000000) : ∃ x st', SH st (c.toNat : Int) = some (x, st') ∧ st'.AB.fs.length ≤ st.AB.fs.length ∧ x.length ≤ st.AB.fs.length ∧ (st.Bi = true → st'.Bi = true) ∧ (st.Bi = false → match B7 st.AB.fs c with | some p => x = p.1 ∧ st' = ⟨⟨p.2⟩, false⟩ | none => st'.Bi = true) := by
 rw [Rp st c (by omega)]; cases hc : B7 st.AB.fs c with
 | none => exact ⟨_, _, rfl, by simp, by simp, fun _ => rfl, fun _ => rfl⟩
 | some p =>
  have := Fv (a := p.1) (b := p.2) hc; exact ⟨_, _, rfl, by simp only; omega, by omega, fun h => h, fun h => ⟨rfl, by rw [h]⟩⟩
theorem XU (st : BC) (s : Str) (hs : s.length ≤ 4000000000) : ∃ (n : Nat) (st' : BC), SI st s 8 = some ((n : Int), st') ∧ n ≤ 8 ∧ st'.AB.fs.length ≤ st.AB.fs.length ∧ (st.Bi = true → st'.Bi = true) ∧ (st.Bi = false → match HY s 8 with | some m => n = m ∧ st' = st | none => st'.Bi = true) := by
 have e := NM st s 8 (by omega) (by omega); rw [show ((8 : Nat) : Int) = 8 from rfl] at e; rw [e]; cases hc : HY s 8 with
 | none => exact ⟨0, _, rfl, by omega, Nat.le_refl _, fun _ => rfl, fun _ => rfl⟩
 | some m => exact ⟨m, _, rfl, (Cj.1 hc).2.1, Nat.le_refl _, fun h => h, fun _ => ⟨rfl, rfl⟩⟩
def rdM : Option HO → Nat
  | some (.cells [.v (.string b), .v (.bool bad)]) => b.size + (if bad = true then 0 else 1)
  | _ => 0
theorem Dc (s : Str) (b : Bool) : rdM (some (.cells [.v (str s), .v (.bool b)])) = s.length + (if b = true then 0 else 1) := by
 have : (⟨s.toArray⟩ : ByteArray).size = s.length := by show s.toArray.size = _; simp
 simp [rdM, str, this]
abbrev FB : List IV := List.replicate 8 (.v (.slice none 0 0))
structure ju (s : Str) (H H' : A2) (st : BC) (C : List IV) (c : List (List Str)) (k f : Nat) : Prop where
  o0 : H'.obj H.next = some (.cells FB)
  o1 : H'.obj (H.next + 1) = some (.cells [.v (str st.AB.fs), .v (.bool st.Bi)])
  o2 : H'.obj (H.next + 2) = some (.cells C)
  ext : Ext H H'
  nx : H.next + 3 ≤ H'.next
  rows : CE H' (H.next + 3) C c
  c8 : c.length = 8
  len : st.AB.fs.length ≤ s.length
  k8 : k ≤ 8
  good : st.Bi = false → st.AB.fs.length ≤ f ∧ DB c ∧ (∀ j, k ≤ j → c.getD j [] = []) ∧ E2 f k st.AB.fs c = Ib s
  bad : st.Bi = true → Ib s = none
theorem Vv {m : Nat} {s : Str} {p : Str × Str} (h : NJ m s = some p) : p.1.length ≤ m := by
 obtain ⟨⟨a, b⟩, h1, h⟩ := Option.bind_eq_some_iff.1 h; obtain ⟨n, h2, h⟩ := Option.bind_eq_some_iff.1 h; have := (Cj.1 h2).2.1; split at h
 ·cases h; simp; omega
 ·cases h
structure EC (H H2 : A2) (b : Bool) (st3 : BC) (c : List (List Str)) (fi n i : Nat) (st' : BC) (C' : List IV) (c' : List (List Str)) : Prop where
  o0 : H2.obj H.next = some (.cells FB)
  o1 : H2.obj (H.next + 1) = some (.cells [.v (str st'.AB.fs), .v (.bool st'.Bi)])
  o2 : H2.obj (H.next + 2) = some (.cells C')
  ext : Ext H H2
  nx : H.next + 3 ≤ H2.next
  rows : CE H2 (H.next + 3) C' c'
  c8 : c'.length = 8
  len : st'.AB.fs.length ≤ st3.AB.fs.length
  fl : ∀ l, c'[fi]? = some l → l.length ≤ 1000000 + i
  dead : b = true → st'.Bi = true
  good : b = false → (st'.Bi = true ∧ EK 200 n st3.AB.fs = none) ∨ (st'.Bi = false ∧ ∃ acc, c' = c.set fi acc ∧ acc.length = i ∧ (∀ v, v ∈ acc → v.length ≤ 200) ∧ EK 200 n st3.AB.fs = (EK 200 (n - i) st'.AB.fs).map fun q => (acc ++ q.1, q.2))
theorem EC.next {H H2 J : A2} {b : Bool} {st3 : BC} {c : List (List Str)} {fi n i : Nat} {st' st'' : BC} {C' C'' : List IV} {c' : List (List Str)} (hJ : EC H H2 b st3 c fi n i st' C' c') (hin : i < n) (hfi : fi < c'.length) {x : Str}
    (l4 : st''.AB.fs.length ≤ st'.AB.fs.length) (b4 : st'.Bi = true → st''.Bi = true) (c4 : st'.Bi = false → match NJ 200 st'.AB.fs with | some p => x = p.1 ∧ st'' = ⟨⟨p.2⟩, false⟩ | none => st''.Bi = true)
    (o0 : J.obj H.next = some (.cells FB)) (o1 : J.obj (H.next + 1) = some (.cells [.v (str st''.AB.fs), .v (.bool st''.Bi)])) (o2 : J.obj (H.next + 2) = some (.cells C'')) (ext : Ext H J) (nx : H.next + 3 ≤ J.next) (rows : CE J (H.next + 3) C'' (c'.set fi (c'[fi] ++ [x]))) :
    EC H J b st3 c fi n (i + 1) st'' C'' (c'.set fi (c'[fi] ++ [x])) := by
 refine ⟨o0, o1, o2, ext, nx, rows, by simp [hJ.c8], Nat.le_trans l4 hJ.len, fun l hl => ?_, fun h => b4 (hJ.dead h), fun h => ?_⟩
 ·rw [List.getElem?_set_self hfi] at hl; cases hl; have := hJ.fl _ (List.getElem?_eq_getElem hfi); simp; omega
 ·rcases hJ.good h with ⟨hd, hT⟩ | ⟨hd, acc, rfl, ha, hav, hT⟩
  ·exact .inl ⟨b4 hd, hT⟩
  ·have c4 := c4 hd; have e1 : n - i = (n - (i + 1)) + 1 := by omega
   rw [e1, EK] at hT; cases hv : NJ 200 st'.AB.fs with
   | none =>
    rw [hv] at c4 hT; exact .inl ⟨c4, by rw [hT]; rfl⟩
   | some p =>
    rw [hv] at c4 hT; obtain ⟨rfl, rfl⟩ := c4; refine .inr ⟨rfl, acc ++ [p.1], ?_, by simp [ha], fun v hv' => ?_, ?_⟩
    ·rw [List.set_set]; simp
    ·rcases List.mem_append.1 hv' with hv' | hv'
     ·exact hav v hv'
     ·rw [List.mem_singleton.1 hv']; exact Vv hv
    ·rw [hT]; simp only [Option.bind_some]; cases EK 200 (n - (i + 1)) p.2 with
     | none => rfl
     | some q => simp
theorem bY {st st1 st2 st3 : BC} {nm mt : Str} {n : Nat} (hb : st.Bi = false) (b2 : st1.Bi = true → st2.Bi = true) (b3 : st2.Bi = true → st3.Bi = true)
    (c1 : st.Bi = false → match B7 st.AB.fs 32 with | some p => nm = p.1 ∧ st1 = ⟨⟨p.2⟩, false⟩ | none => st1.Bi = true)
    (c2 : st1.Bi = false → match B7 st1.AB.fs 10 with | some p => mt = p.1 ∧ st2 = ⟨⟨p.2⟩, false⟩ | none => st2.Bi = true)
    (c3 : st2.Bi = false → match HY mt 8 with | some m => n = m ∧ st3 = st2 | none => st3.Bi = true) :
    (st3.Bi = true ∧ LL st.AB.fs = none) ∨ (st3.Bi = false ∧ st3.AB.fs.length < st.AB.fs.length ∧ LL st.AB.fs = (IZ nm).bind fun i => (EK 200 n st3.AB.fs).map fun r => (i, r.1, r.2)) := by
 have c1 := c1 hb; unfold LL; cases h1 : B7 st.AB.fs 32 with
 | none => rw [h1] at c1; exact .inl ⟨b3 (b2 c1), rfl⟩
 | some p =>
  rw [h1] at c1; obtain ⟨rfl, rfl⟩ := c1; have hl := Fv (a := p.1) (b := p.2) h1; have c2 := c2 rfl; simp only at c2; simp only [Option.bind_some]; cases h2 : B7 p.2 10 with
  | none => rw [h2] at c2; exact .inl ⟨b3 c2, rfl⟩
  | some q =>
   rw [h2] at c2; obtain ⟨rfl, rfl⟩ := c2; have hl2 := Fv (a := q.1) (b := q.2) h2; have c3 := c3 rfl; simp only [Option.bind_some]; cases h3 : HY q.1 8 with
   | none =>
    rw [h3] at c3; refine .inl ⟨c3, ?_⟩; cases IZ p.1 <;> rfl
   | some m =>
    rw [h3] at c3; obtain ⟨rfl, rfl⟩ := c3; exact .inr ⟨rfl, by simp only; omega, rfl⟩
theorem G0 (f k : Nat) (s : Str) (c : List (List Str)) (h : s ≠ []) (hf : LL s = none) : E2 f k s c = none := by
 cases f with
 | zero => unfold E2; rw [if_neg h]
 | succ f => unfold E2; rw [if_neg h, hf]; rfl
theorem Vw (f k : Nat) (s : Str) (c : List (List Str)) (h : s ≠ []) {i : Nat} {o : Option (List Str × Str)} (hf : LL s = o.map fun r => (i, r.1, r.2)) (hi : i < k) : E2 f k s c = none := by
 cases f with
 | zero => unfold E2; rw [if_neg h]
 | succ f =>
  unfold E2; rw [if_neg h, hf]; cases o with
  | none => rfl
  | some r => simp [hi]
theorem SX (f k : Nat) (s : Str) (c : List (List Str)) (h : s ≠ []) {i : Nat} {l : List Str} {r : Str} (hf : LL s = some (i, l, r)) (hi : k ≤ i) : E2 (f + 1) k s c = E2 f (i + 1) r (c.set i l) := by
 rw [E2, if_neg h, hf]; simp only [Option.bind_some]; rw [if_neg (by omega)]
set_option pp.deepTerms false in
set_option maxRecDepth 8000 in
set_option maxHeartbeats 4000000 in
theorem bZ (s : Str) (hs : s.length ≤ 1000000000) (hV : VOK prog H) (hK : K (.ret (.tu [cS (GX s).1, .v (.int .i64 (GX s).2)])) H) : Ac prog 66 [.v (str s)] H K := by
 refine AP (N := 78) func66 (by kernel_rfl) rfl (by kernel_rfl) (by kernel_rfl) fun hw hbd hnb => ?_; simp (maxSteps := 1000000) (disch := omega) [go_sem, bdP]; refine Bk (fun tm' H' => ∃ (st : BC) (C : List IV) (c : List (List Str)) (k f : Nat), tm' 2 = .p H.next 0 ∧ tm' 4 = .p (H.next + 1) 0 ∧ tm' 5 = .p (H.next + 2) 0 ∧ tm' 6 = .v (.int .i64 ((k : Int) - 1)) ∧ ju s H H' st C c k f) (fun _ H' => rdM (H'.obj (H.next + 1))) (.same ?_) ?_
 ·refine ⟨⟨⟨s⟩, false⟩, FB, BS, 0, s.length, by simp [go_sem], by simp [go_sem], by simp [go_sem], by simp [go_sem], ?_⟩; refine ⟨by simp [go_sem, FB], by simp [go_sem], by simp [go_sem, FB], (((Ext.refl hw).new _).new _).new _, by simp [go_sem], .U9 8, by simp [BS], by simp, by omega, fun _ => ⟨Nat.le_refl _, ⟨by simp [BS], by simp [BS]⟩, fun j _ => ?_, rfl⟩, fun h => by cases h⟩; rw [BS, List.getD_eq_getElem?_getD, List.getElem?_replicate]; split <;> rfl
 rintro I' μ' hI hμ tm' H' ⟨st, C, c, k, f, t2, t4, t5, t6, hR⟩
 have o1 := hR.o1; have o2 := hR.o2; have o0 := hR.o0; have badEnd : st.Bi = true → (GX s) = (BS, 260) := fun h => by unfold GX; rw [hR.bad h]
 refine AF _ (by kernel_rfl) _ _ _ ?_; simp (maxSteps := 1000000) (disch := omega) [go_sem, t2, t4, t5, t6, o1]; by_cases h0 : st.AB.fs = []
 ·simp (maxSteps := 1000000) (disch := omega) [go_sem, t2, t4, t5, t6, o1, h0]; cases hb : st.Bi with
  | true =>
   rw [hb] at o1; rw [badEnd hb] at hK; simp (maxSteps := 1000000) (disch := omega) [go_sem, t2, t4, t5, t6, o1, bdP, o0]; exact BA (J := H) (hR.ext.set (Nat.le_refl _) _).Cy (.tu2 (by rw [KI]; exact Fz.U9 8) (.same (.v _))) hK
  | false =>
   rw [hb] at o1; obtain ⟨g1, g2, g3, g4⟩ := hR.good hb; have hcT : Ib s = some c := by rw [← g4, h0]; cases f <;> simp [E2]
   have hC8 : C.length = 8 := by rw [hR.rows.len, hR.c8]
   have htk : List.take 8 C = C := List.take_of_length_le (by omega); simp (maxSteps := 1000000) (disch := omega) [go_sem, t2, t4, t5, t6, o1, o2, hC8, htk]; refine HB (H := H') (args' := [cS c]) (.cons (hR.rows.fz fun _ _ => rfl) .nil) (fun H K hK => IJ c (A9 g2) hK) ?_; by_cases hk : AH c = true
   ·have e : GX s = (c, 0) := by unfold GX; rw [hcT]; simp [hk]
    rw [e] at hK; rw [if_pos hk]; simp (maxSteps := 1000000) (disch := omega) [go_sem, t2, t4, t5, t6, o1, o2, hC8, htk, o0]; exact BA (J := H) (hR.ext.set (Nat.le_refl _) _).Cy (.tu2 ((hR.rows.mono (J' := H'.set H.next (.cells C)) (Nat.le_refl _) fun q o hq _ e => by simp only [go_sem, if_neg (show ¬ q = H.next by omega)]; exact e).fz fun q hq => hw q (by omega)) (.same (.v _))) hK
   ·have e : GX s = (BS, 260) := by unfold GX; rw [hcT]; simp [hk]
    rw [e] at hK; rw [if_neg hk]; simp (maxSteps := 1000000) (disch := omega) [go_sem, t2, t4, t5, t6, o1, bdP, o0, o2, hC8, htk]; exact BA (J := H) (hR.ext.set (Nat.le_refl _) _).Cy (.tu2 (by rw [KI]; exact Fz.U9 8) (.same (.v _))) hK
 ·simp (maxSteps := 1000000) (disch := omega) [go_sem, t2, t4, t5, t6, o1, h0]; cases hb : st.Bi with
  | true =>
   rw [hb] at o1; rw [badEnd hb] at hK; simp (maxSteps := 1000000) (disch := omega) [go_sem, t2, t4, t5, t6, o1, bdP, o0]; exact BA (J := H) (hR.ext.set (Nat.le_refl _) _).Cy (.tu2 (by rw [KI]; exact Fz.U9 8) (.same (.v _))) hK
  | false =>
   obtain ⟨g1, g2, g3, g4⟩ := hR.good hb; obtain ⟨nm, st1, e1, l1, m1, b1, c1⟩ := Vu st 32 (by have := hR.len; omega); rw [show (((32 : UInt8).toNat : Nat) : Int) = 32 from rfl] at e1; have o1' := o1; rw [hb] at o1'; simp (maxSteps := 1000000) (disch := omega) [go_sem, t2, t4, t5, t6, o1']; refine NF st 32 _ o1 (hV.of hR.ext.sn) e1 ?_; simp (maxSteps := 1000000) (disch := omega) [go_sem, t2, t4, t5, t6, BJ]; refine Vt nm ?_; simp (maxSteps := 1000000) (disch := omega) [go_sem, t2, t4, t5, t6]; obtain ⟨mt, st2, e2, l2, m2, b2, c2⟩ := Vu st1 10 (by have := hR.len; omega); rw [show (((10 : UInt8).toNat : Nat) : Int) = 10 from rfl] at e2; refine NF st1 10 _ (by simp [go_sem, BJ]) (hV.of hR.ext.sn) e2 ?_; simp (maxSteps := 1000000) (disch := omega) [go_sem, t2, t4, t5, t6, BJ]; obtain ⟨n, st3, e3, hn, l3, b3, c3⟩ := XU st2 mt (by have := hR.len; omega); refine Rl st2 mt 8 _ (by simp [go_sem, BJ]) (hV.of hR.ext.sn) e3 ?_; simp (maxSteps := 1000000) (disch := omega) [go_sem, t2, t4, t5, t6, BJ]; have hF := bY hb b2 b3 c1 c2 c3; have l30 : st3.AB.fs.length ≤ st.AB.fs.length := by omega
   have mk0 : ∀ (b : Bool) (fi : Nat), fi < 8 → (b = false → k ≤ fi) → EC H (H'.set (H.next + 1) (.cells [.v (str st3.AB.fs), .v (.bool b)])) b st3 c fi n 0 ⟨st3.AB, b⟩ C c := fun b fi hfi h => by
    have hlt : fi < c.length := by rw [hR.c8]; exact hfi
    refine ⟨by simp [go_sem, o0, FB], by simp [go_sem], by simp [go_sem, o2], hR.ext.set (by omega) _, by simpa [go_sem] using hR.nx, hR.rows.mono (Nat.le_refl _) fun q o hq _ e => ?_, hR.c8, Nat.le_refl _, fun l hl => ?_, fun h => h, fun hb' => .inr ⟨hb', [], ?_, rfl, fun v hv => by simp at hv, ?_⟩⟩
    ·simp only [go_sem, if_neg (show ¬ q = H.next + 1 by omega)]; exact e
    ·have := (g2.2 l (List.mem_of_getElem? hl)).1; omega
    ·have h3 := g3 fi (h hb'); rw [List.getD_eq_getElem?_getD, List.getElem?_eq_getElem hlt] at h3; have h3 : c[fi] = [] := h3; rw [← h3, List.set_getElem_self]
    ·simp
   cases hb3 : st3.Bi with
   | true =>
    cases hfx : IZ nm with
    | none =>
     simp (maxSteps := 1000000) (disch := omega) [go_sem, t2, t4, t5, t6, hb3, hfx]; refine Bk (fun tm2 H2 => ∃ (i : Nat) (st' : BC) (C' : List IV) (c' : List (List Str)), tm2 2 = .p H.next 0 ∧ tm2 4 = .p (H.next + 1) 0 ∧ tm2 5 = .p (H.next + 2) 0 ∧ tm2 7 = .v (.int .i64 (0 : Nat)) ∧ tm2 53 = .v (.int .i64 n) ∧ tm2 54 = .v (.int .i64 i) ∧ i ≤ n ∧ EC H H2 true st3 c 0 n i st' C' c') (fun tm2 _ => n - (intOf (tm2 54)).toNat) (.same ?_) ?_
     ·exact ⟨0, ⟨st3.AB, true⟩, C, c, by simp [go_sem, t2], by simp [go_sem, t4], by simp [go_sem, t5], by simp [go_sem], by simp [go_sem], by simp [go_sem], by omega, mk0 true (0) (by omega) (fun h => (by cases h))⟩
     rintro I2 μ2 hI2 hμ2 tm2 H2 ⟨i, st', C', c', u2, u4, u5, u7, u53, u54, hi, hJ⟩
     have p1 := hJ.o1; have p2 := hJ.o2; have p0 := hJ.o0; refine AF _ (by kernel_rfl) _ _ _ ?_; simp (maxSteps := 1000000) (disch := omega) [go_sem, u2, u4, u5, u7, u53, u54]; refine BM ?_ ?_ <;> intro hc2 <;> (try simp at hc2)
     ·obtain ⟨x, st'', e4, l4, b4, c4⟩ := Ia st' (by have := hJ.len; have := hR.len; omega); have hCl : C'.length = 8 := by rw [hJ.rows.len, hJ.c8]
      have hfi : (0) < c'.length := by rw [hJ.c8]; omega
      have hfC : (0) < C'.length := by omega
      rcases hJ.rows.at hfi with ⟨hC, hc0⟩ | ⟨nr, q1, q2, hC, q4⟩
      ·have hCe : C'[0]'hfC = .v (.slice none 0 0) := by rw [List.getElem?_eq_getElem hfC] at hC; exact Option.some.inj hC
       simp (maxSteps := 1000000) (disch := omega) [go_sem, u2, u4, u5, u7, u53, u54, p2, hCl]; refine By [0, 1, 2, 3, 4, 5, 6, 7, 8, 9] (by kernel_rfl) (by kernel_rfl) (fun _ _ _ _ h => h) ?_; simp (maxSteps := 1000000) (disch := omega) [go_sem, u2, u4, u5, u7, u53, u54, p2, hCl, hCe]; refine CY st' _ p1 (hV.of hJ.ext.sn) e4 ?_; have nx2 := hJ.nx; have n0 : ¬ H.next = H2.next := by omega
       have n1 : ¬ H.next + 1 = H2.next := by omega
       have n2 : ¬ H.next + 2 = H2.next := by omega
       simp (maxSteps := 1000000) (disch := omega) [go_sem, u2, u4, u5, u7, u53, u54, p2, hCl, hCe, BJ, n0, n1, n2]; have n3 : ¬ H2.next = H.next + 2 := by omega
       have n4 : ¬ H2.next = H.next + 1 := by omega
       have ex : c'.set (0) (c'[0] ++ [x]) = c'.set (0) [x] := by rw [hc0]; rfl
       have eC : ∀ y : IV, List.take (0) C' ++ y :: List.drop (0 + 1) C' = C'.set (0) y := fun y => by rw [List.set_eq_take_append_cons_drop, if_pos hfC]
       have eT : ∀ y : IV, y :: C'.tail = C'.set 0 y := fun y => by cases C' with | nil => simp at hCl | cons a b => rfl
       refine .of hI2 hμ2 ⟨i + 1, st'', C'.set (0) (.os H2.next 1), c'.set (0) (c'[0] ++ [x]), by simp [go_sem, u2], by simp [go_sem, u4], by simp [go_sem, u5], by simp [go_sem, u7], by simp [go_sem, u53], by simp [go_sem], by omega, ?_⟩ (by simp [go_sem, u54]; omega); refine hJ.next hc2 hfi l4 b4 c4 (by simp [go_sem, p0, n0, FB]) (by simp [go_sem, n1]) (by first | (simp [go_sem, eC]; done) | (simp [go_sem, eT]; done)) (((hJ.ext.set (by omega) _).new _).set (by omega) _) (by simp [go_sem]; omega) ?_; rw [ex]; refine hJ.rows.Lc hfi hc0 (by omega) (Nat.le_refl _) (by simp [go_sem]) (by simp [go_sem]) (fun q o hq hq' e => ?_) (by simp [go_sem, n3, n4]); have m1 : ¬ q = H.next + 2 := by omega
       have m2 : ¬ q = H.next + 1 := by omega
       have m3 : ¬ q = H2.next := by omega
       simp [go_sem, m1, m2, m3, e]
      ·have hCe : C'[0]'hfC = .os nr c'[0].length := by rw [List.getElem?_eq_getElem hfC] at hC; exact Option.some.inj hC
       have hfl := hJ.fl _ (List.getElem?_eq_getElem hfi); simp (maxSteps := 1000000) (disch := omega) [go_sem, u2, u4, u5, u7, u53, u54, p2, hCl]; refine By [0, 1, 2, 3, 4, 5, 6, 7, 8, 9] (by kernel_rfl) (by kernel_rfl) (fun _ _ _ _ h => h) ?_; simp (maxSteps := 1000000) (disch := omega) [go_sem, u2, u4, u5, u7, u53, u54, p2, hCl, hCe]; refine CY st' _ p1 (hV.of hJ.ext.sn) e4 ?_; have n0 : ¬ H.next = nr := by omega
       have n1 : ¬ H.next + 1 = nr := by omega
       have n2 : ¬ H.next + 2 = nr := by omega
       have n3 : ¬ nr = H.next + 1 := by omega
       have n4 : ¬ nr = H.next + 2 := by omega
       simp (maxSteps := 1000000) (disch := omega) [go_sem, u2, u4, u5, u7, u53, u54, p2, hCl, hCe, BJ, q4, n0, n1, n2, n3, n4]; have eC : ∀ y : IV, List.take (0) C' ++ y :: List.drop (0 + 1) C' = C'.set (0) y := fun y => by rw [List.set_eq_take_append_cons_drop, if_pos hfC]
       have eT : ∀ y : IV, y :: C'.tail = C'.set 0 y := fun y => by cases C' with | nil => simp at hCl | cons a b => rfl
       have el : (c'[0] ++ [x]).length = c'[0].length + 1 := by simp
       refine .of hI2 hμ2 ⟨i + 1, st'', C'.set (0) (.os nr (c'[0].length + 1)), c'.set (0) (c'[0] ++ [x]), by simp [go_sem, u2], by simp [go_sem, u4], by simp [go_sem, u5], by simp [go_sem, u7], by simp [go_sem, u53], by simp [go_sem], by omega, ?_⟩ (by simp [go_sem, u54]; omega); have nx2 := hJ.nx; refine hJ.next hc2 hfi l4 b4 c4 (by simp [go_sem, p0, n0, FB]) (by simp [go_sem, n1]) (by first | (simp [go_sem, eC]; done) | (simp [go_sem, eT]; done)) (((hJ.ext.set (by omega) _).set (by omega) _).set (by omega) _) (by simp [go_sem]; omega) ?_; rw [← el]; refine hJ.rows.Ld hfi hC (by simp [go_sem]) (fun q o hq hq' hne e => ?_) (by simp [go_sem, n3, n4]); have m1 : ¬ q = H.next + 2 := by omega
       have m2 : ¬ q = H.next + 1 := by omega
       simp [go_sem, m1, m2, hne, e]
     ·simp (maxSteps := 1000000) (disch := omega) [go_sem, u2, u4, u5, u7, u53, u54]; have hd := hJ.dead rfl; have hT : Ib s = none := by
       rcases hF with ⟨_, hF⟩ | ⟨h, _⟩
       ·rw [← g4]; exact G0 f k _ c h0 hF
       ·rw [hb3] at h; cases h
      refine .of hI hμ ⟨st', C', c', 0 + 1, f, by simp [go_sem, u2], by simp [go_sem, u4], by simp [go_sem, u5], by simp [go_sem, u7], ⟨p0, p1, p2, hJ.ext, hJ.nx, hJ.rows, hJ.c8, by have := hJ.len; have := hR.len; omega, by omega, fun h => (by rw [hd] at h; cases h), fun _ => hT⟩⟩ ?_; rw [p1, Dc, Dc, hd]; have := hJ.len; simp; omega
    | some fi =>
     have hfi8 := NK hfx; simp (maxSteps := 1000000) (disch := omega) [go_sem, t2, t4, t5, t6, hb3, hfx]; refine Bk (fun tm2 H2 => ∃ (i : Nat) (st' : BC) (C' : List IV) (c' : List (List Str)), tm2 2 = .p H.next 0 ∧ tm2 4 = .p (H.next + 1) 0 ∧ tm2 5 = .p (H.next + 2) 0 ∧ tm2 7 = .v (.int .i64 (fi : Nat)) ∧ tm2 53 = .v (.int .i64 n) ∧ tm2 54 = .v (.int .i64 i) ∧ i ≤ n ∧ EC H H2 true st3 c fi n i st' C' c') (fun tm2 _ => n - (intOf (tm2 54)).toNat) (.same ?_) ?_
     ·exact ⟨0, ⟨st3.AB, true⟩, C, c, by simp [go_sem, t2], by simp [go_sem, t4], by simp [go_sem, t5], by simp [go_sem], by simp [go_sem], by simp [go_sem], by omega, mk0 true (fi) (by omega) (fun h => (by cases h))⟩
     rintro I2 μ2 hI2 hμ2 tm2 H2 ⟨i, st', C', c', u2, u4, u5, u7, u53, u54, hi, hJ⟩
     have p1 := hJ.o1; have p2 := hJ.o2; have p0 := hJ.o0; refine AF _ (by kernel_rfl) _ _ _ ?_; simp (maxSteps := 1000000) (disch := omega) [go_sem, u2, u4, u5, u7, u53, u54]; refine BM ?_ ?_ <;> intro hc2 <;> (try simp at hc2)
     ·obtain ⟨x, st'', e4, l4, b4, c4⟩ := Ia st' (by have := hJ.len; have := hR.len; omega); have hCl : C'.length = 8 := by rw [hJ.rows.len, hJ.c8]
      have hfi : (fi) < c'.length := by rw [hJ.c8]; omega
      have hfC : (fi) < C'.length := by omega
      rcases hJ.rows.at hfi with ⟨hC, hc0⟩ | ⟨nr, q1, q2, hC, q4⟩
      ·have hCe : C'[fi]'hfC = .v (.slice none 0 0) := by rw [List.getElem?_eq_getElem hfC] at hC; exact Option.some.inj hC
       simp (maxSteps := 1000000) (disch := omega) [go_sem, u2, u4, u5, u7, u53, u54, p2, hCl]; refine By [0, 1, 2, 3, 4, 5, 6, 7, 8, 9] (by kernel_rfl) (by kernel_rfl) (fun _ _ _ _ h => h) ?_; simp (maxSteps := 1000000) (disch := omega) [go_sem, u2, u4, u5, u7, u53, u54, p2, hCl, hCe]; refine CY st' _ p1 (hV.of hJ.ext.sn) e4 ?_; have nx2 := hJ.nx; have n0 : ¬ H.next = H2.next := by omega
       have n1 : ¬ H.next + 1 = H2.next := by omega
       have n2 : ¬ H.next + 2 = H2.next := by omega
       simp (maxSteps := 1000000) (disch := omega) [go_sem, u2, u4, u5, u7, u53, u54, p2, hCl, hCe, BJ, n0, n1, n2]; have n3 : ¬ H2.next = H.next + 2 := by omega
       have n4 : ¬ H2.next = H.next + 1 := by omega
       have ex : c'.set (fi) (c'[fi] ++ [x]) = c'.set (fi) [x] := by rw [hc0]; rfl
       have eC : ∀ y : IV, List.take (fi) C' ++ y :: List.drop (fi + 1) C' = C'.set (fi) y := fun y => by rw [List.set_eq_take_append_cons_drop, if_pos hfC]
       have eT : ∀ y : IV, y :: C'.tail = C'.set 0 y := fun y => by cases C' with | nil => simp at hCl | cons a b => rfl
       refine .of hI2 hμ2 ⟨i + 1, st'', C'.set (fi) (.os H2.next 1), c'.set (fi) (c'[fi] ++ [x]), by simp [go_sem, u2], by simp [go_sem, u4], by simp [go_sem, u5], by simp [go_sem, u7], by simp [go_sem, u53], by simp [go_sem], by omega, ?_⟩ (by simp [go_sem, u54]; omega); refine hJ.next hc2 hfi l4 b4 c4 (by simp [go_sem, p0, n0, FB]) (by simp [go_sem, n1]) (by first | (simp [go_sem, eC]; done) | (simp [go_sem, eT]; done)) (((hJ.ext.set (by omega) _).new _).set (by omega) _) (by simp [go_sem]; omega) ?_; rw [ex]; refine hJ.rows.Lc hfi hc0 (by omega) (Nat.le_refl _) (by simp [go_sem]) (by simp [go_sem]) (fun q o hq hq' e => ?_) (by simp [go_sem, n3, n4]); have m1 : ¬ q = H.next + 2 := by omega
       have m2 : ¬ q = H.next + 1 := by omega
       have m3 : ¬ q = H2.next := by omega
       simp [go_sem, m1, m2, m3, e]
      ·have hCe : C'[fi]'hfC = .os nr c'[fi].length := by rw [List.getElem?_eq_getElem hfC] at hC; exact Option.some.inj hC
       have hfl := hJ.fl _ (List.getElem?_eq_getElem hfi); simp (maxSteps := 1000000) (disch := omega) [go_sem, u2, u4, u5, u7, u53, u54, p2, hCl]; refine By [0, 1, 2, 3, 4, 5, 6, 7, 8, 9] (by kernel_rfl) (by kernel_rfl) (fun _ _ _ _ h => h) ?_; simp (maxSteps := 1000000) (disch := omega) [go_sem, u2, u4, u5, u7, u53, u54, p2, hCl, hCe]; refine CY st' _ p1 (hV.of hJ.ext.sn) e4 ?_; have n0 : ¬ H.next = nr := by omega
       have n1 : ¬ H.next + 1 = nr := by omega
       have n2 : ¬ H.next + 2 = nr := by omega
       have n3 : ¬ nr = H.next + 1 := by omega
       have n4 : ¬ nr = H.next + 2 := by omega
       simp (maxSteps := 1000000) (disch := omega) [go_sem, u2, u4, u5, u7, u53, u54, p2, hCl, hCe, BJ, q4, n0, n1, n2, n3, n4]; have eC : ∀ y : IV, List.take (fi) C' ++ y :: List.drop (fi + 1) C' = C'.set (fi) y := fun y => by rw [List.set_eq_take_append_cons_drop, if_pos hfC]
       have eT : ∀ y : IV, y :: C'.tail = C'.set 0 y := fun y => by cases C' with | nil => simp at hCl | cons a b => rfl
       have el : (c'[fi] ++ [x]).length = c'[fi].length + 1 := by simp
       refine .of hI2 hμ2 ⟨i + 1, st'', C'.set (fi) (.os nr (c'[fi].length + 1)), c'.set (fi) (c'[fi] ++ [x]), by simp [go_sem, u2], by simp [go_sem, u4], by simp [go_sem, u5], by simp [go_sem, u7], by simp [go_sem, u53], by simp [go_sem], by omega, ?_⟩ (by simp [go_sem, u54]; omega); have nx2 := hJ.nx; refine hJ.next hc2 hfi l4 b4 c4 (by simp [go_sem, p0, n0, FB]) (by simp [go_sem, n1]) (by first | (simp [go_sem, eC]; done) | (simp [go_sem, eT]; done)) (((hJ.ext.set (by omega) _).set (by omega) _).set (by omega) _) (by simp [go_sem]; omega) ?_; rw [← el]; refine hJ.rows.Ld hfi hC (by simp [go_sem]) (fun q o hq hq' hne e => ?_) (by simp [go_sem, n3, n4]); have m1 : ¬ q = H.next + 2 := by omega
       have m2 : ¬ q = H.next + 1 := by omega
       simp [go_sem, m1, m2, hne, e]
     ·simp (maxSteps := 1000000) (disch := omega) [go_sem, u2, u4, u5, u7, u53, u54]; have hd := hJ.dead rfl; have hT : Ib s = none := by
       rcases hF with ⟨_, hF⟩ | ⟨h, _⟩
       ·rw [← g4]; exact G0 f k _ c h0 hF
       ·rw [hb3] at h; cases h
      refine .of hI hμ ⟨st', C', c', fi + 1, f, by simp [go_sem, u2], by simp [go_sem, u4], by simp [go_sem, u5], by simp [go_sem, u7], ⟨p0, p1, p2, hJ.ext, hJ.nx, hJ.rows, hJ.c8, by have := hJ.len; have := hR.len; omega, by omega, fun h => (by rw [hd] at h; cases h), fun _ => hT⟩⟩ ?_; rw [p1, Dc, Dc, hd]; have := hJ.len; simp; omega
   | false =>
    cases hfx : IZ nm with
    | none =>
     simp (maxSteps := 1000000) (disch := omega) [go_sem, t2, t4, t5, t6, hb3, hfx]; refine Bk (fun tm2 H2 => ∃ (i : Nat) (st' : BC) (C' : List IV) (c' : List (List Str)), tm2 2 = .p H.next 0 ∧ tm2 4 = .p (H.next + 1) 0 ∧ tm2 5 = .p (H.next + 2) 0 ∧ tm2 7 = .v (.int .i64 (0 : Nat)) ∧ tm2 53 = .v (.int .i64 n) ∧ tm2 54 = .v (.int .i64 i) ∧ i ≤ n ∧ EC H H2 true st3 c 0 n i st' C' c') (fun tm2 _ => n - (intOf (tm2 54)).toNat) (.same ?_) ?_
     ·exact ⟨0, ⟨st3.AB, true⟩, C, c, by simp [go_sem, t2], by simp [go_sem, t4], by simp [go_sem, t5], by simp [go_sem], by simp [go_sem], by simp [go_sem], by omega, mk0 true (0) (by omega) (fun h => (by cases h))⟩
     rintro I2 μ2 hI2 hμ2 tm2 H2 ⟨i, st', C', c', u2, u4, u5, u7, u53, u54, hi, hJ⟩
     have p1 := hJ.o1; have p2 := hJ.o2; have p0 := hJ.o0; refine AF _ (by kernel_rfl) _ _ _ ?_; simp (maxSteps := 1000000) (disch := omega) [go_sem, u2, u4, u5, u7, u53, u54]; refine BM ?_ ?_ <;> intro hc2 <;> (try simp at hc2)
     ·obtain ⟨x, st'', e4, l4, b4, c4⟩ := Ia st' (by have := hJ.len; have := hR.len; omega); have hCl : C'.length = 8 := by rw [hJ.rows.len, hJ.c8]
      have hfi : (0) < c'.length := by rw [hJ.c8]; omega
      have hfC : (0) < C'.length := by omega
      rcases hJ.rows.at hfi with ⟨hC, hc0⟩ | ⟨nr, q1, q2, hC, q4⟩
      ·have hCe : C'[0]'hfC = .v (.slice none 0 0) := by rw [List.getElem?_eq_getElem hfC] at hC; exact Option.some.inj hC
       simp (maxSteps := 1000000) (disch := omega) [go_sem, u2, u4, u5, u7, u53, u54, p2, hCl]; refine By [0, 1, 2, 3, 4, 5, 6, 7, 8, 9] (by kernel_rfl) (by kernel_rfl) (fun _ _ _ _ h => h) ?_; simp (maxSteps := 1000000) (disch := omega) [go_sem, u2, u4, u5, u7, u53, u54, p2, hCl, hCe]; refine CY st' _ p1 (hV.of hJ.ext.sn) e4 ?_; have nx2 := hJ.nx; have n0 : ¬ H.next = H2.next := by omega
       have n1 : ¬ H.next + 1 = H2.next := by omega
       have n2 : ¬ H.next + 2 = H2.next := by omega
       simp (maxSteps := 1000000) (disch := omega) [go_sem, u2, u4, u5, u7, u53, u54, p2, hCl, hCe, BJ, n0, n1, n2]; have n3 : ¬ H2.next = H.next + 2 := by omega
       have n4 : ¬ H2.next = H.next + 1 := by omega
       have ex : c'.set (0) (c'[0] ++ [x]) = c'.set (0) [x] := by rw [hc0]; rfl
       have eC : ∀ y : IV, List.take (0) C' ++ y :: List.drop (0 + 1) C' = C'.set (0) y := fun y => by rw [List.set_eq_take_append_cons_drop, if_pos hfC]
       have eT : ∀ y : IV, y :: C'.tail = C'.set 0 y := fun y => by cases C' with | nil => simp at hCl | cons a b => rfl
       refine .of hI2 hμ2 ⟨i + 1, st'', C'.set (0) (.os H2.next 1), c'.set (0) (c'[0] ++ [x]), by simp [go_sem, u2], by simp [go_sem, u4], by simp [go_sem, u5], by simp [go_sem, u7], by simp [go_sem, u53], by simp [go_sem], by omega, ?_⟩ (by simp [go_sem, u54]; omega); refine hJ.next hc2 hfi l4 b4 c4 (by simp [go_sem, p0, n0, FB]) (by simp [go_sem, n1]) (by first | (simp [go_sem, eC]; done) | (simp [go_sem, eT]; done)) (((hJ.ext.set (by omega) _).new _).set (by omega) _) (by simp [go_sem]; omega) ?_; rw [ex]; refine hJ.rows.Lc hfi hc0 (by omega) (Nat.le_refl _) (by simp [go_sem]) (by simp [go_sem]) (fun q o hq hq' e => ?_) (by simp [go_sem, n3, n4]); have m1 : ¬ q = H.next + 2 := by omega
       have m2 : ¬ q = H.next + 1 := by omega
       have m3 : ¬ q = H2.next := by omega
       simp [go_sem, m1, m2, m3, e]
      ·have hCe : C'[0]'hfC = .os nr c'[0].length := by rw [List.getElem?_eq_getElem hfC] at hC; exact Option.some.inj hC
       have hfl := hJ.fl _ (List.getElem?_eq_getElem hfi); simp (maxSteps := 1000000) (disch := omega) [go_sem, u2, u4, u5, u7, u53, u54, p2, hCl]; refine By [0, 1, 2, 3, 4, 5, 6, 7, 8, 9] (by kernel_rfl) (by kernel_rfl) (fun _ _ _ _ h => h) ?_; simp (maxSteps := 1000000) (disch := omega) [go_sem, u2, u4, u5, u7, u53, u54, p2, hCl, hCe]; refine CY st' _ p1 (hV.of hJ.ext.sn) e4 ?_; have n0 : ¬ H.next = nr := by omega
       have n1 : ¬ H.next + 1 = nr := by omega
       have n2 : ¬ H.next + 2 = nr := by omega
       have n3 : ¬ nr = H.next + 1 := by omega
       have n4 : ¬ nr = H.next + 2 := by omega
       simp (maxSteps := 1000000) (disch := omega) [go_sem, u2, u4, u5, u7, u53, u54, p2, hCl, hCe, BJ, q4, n0, n1, n2, n3, n4]; have eC : ∀ y : IV, List.take (0) C' ++ y :: List.drop (0 + 1) C' = C'.set (0) y := fun y => by rw [List.set_eq_take_append_cons_drop, if_pos hfC]
       have eT : ∀ y : IV, y :: C'.tail = C'.set 0 y := fun y => by cases C' with | nil => simp at hCl | cons a b => rfl
       have el : (c'[0] ++ [x]).length = c'[0].length + 1 := by simp
       refine .of hI2 hμ2 ⟨i + 1, st'', C'.set (0) (.os nr (c'[0].length + 1)), c'.set (0) (c'[0] ++ [x]), by simp [go_sem, u2], by simp [go_sem, u4], by simp [go_sem, u5], by simp [go_sem, u7], by simp [go_sem, u53], by simp [go_sem], by omega, ?_⟩ (by simp [go_sem, u54]; omega); have nx2 := hJ.nx; refine hJ.next hc2 hfi l4 b4 c4 (by simp [go_sem, p0, n0, FB]) (by simp [go_sem, n1]) (by first | (simp [go_sem, eC]; done) | (simp [go_sem, eT]; done)) (((hJ.ext.set (by omega) _).set (by omega) _).set (by omega) _) (by simp [go_sem]; omega) ?_; rw [← el]; refine hJ.rows.Ld hfi hC (by simp [go_sem]) (fun q o hq hq' hne e => ?_) (by simp [go_sem, n3, n4]); have m1 : ¬ q = H.next + 2 := by omega
       have m2 : ¬ q = H.next + 1 := by omega
       simp [go_sem, m1, m2, hne, e]
     ·simp (maxSteps := 1000000) (disch := omega) [go_sem, u2, u4, u5, u7, u53, u54]; have hd := hJ.dead rfl; have hT : Ib s = none := by
       rcases hF with ⟨h, _⟩ | ⟨_, _, hF⟩
       ·rw [hb3] at h; cases h
       ·rw [← g4]; exact G0 f k _ c h0 (by rw [hF, hfx]; rfl)
      refine .of hI hμ ⟨st', C', c', 0 + 1, f, by simp [go_sem, u2], by simp [go_sem, u4], by simp [go_sem, u5], by simp [go_sem, u7], ⟨p0, p1, p2, hJ.ext, hJ.nx, hJ.rows, hJ.c8, by have := hJ.len; have := hR.len; omega, by omega, fun h => (by rw [hd] at h; cases h), fun _ => hT⟩⟩ ?_; rw [p1, Dc, Dc, hd]; have := hJ.len; simp; omega
    | some fi =>
     have hfi8 := NK hfx; by_cases hik : (fi : Int) ≤ (k : Int) - 1
     ·simp (maxSteps := 1000000) (disch := omega) [go_sem, t2, t4, t5, t6, hb3, hfx, hik]; refine Bk (fun tm2 H2 => ∃ (i : Nat) (st' : BC) (C' : List IV) (c' : List (List Str)), tm2 2 = .p H.next 0 ∧ tm2 4 = .p (H.next + 1) 0 ∧ tm2 5 = .p (H.next + 2) 0 ∧ tm2 7 = .v (.int .i64 (fi : Nat)) ∧ tm2 53 = .v (.int .i64 n) ∧ tm2 54 = .v (.int .i64 i) ∧ i ≤ n ∧ EC H H2 true st3 c fi n i st' C' c') (fun tm2 _ => n - (intOf (tm2 54)).toNat) (.same ?_) ?_
      ·exact ⟨0, ⟨st3.AB, true⟩, C, c, by simp [go_sem, t2], by simp [go_sem, t4], by simp [go_sem, t5], by simp [go_sem], by simp [go_sem], by simp [go_sem], by omega, mk0 true (fi) (by omega) (fun h => (by cases h))⟩
      rintro I2 μ2 hI2 hμ2 tm2 H2 ⟨i, st', C', c', u2, u4, u5, u7, u53, u54, hi, hJ⟩
      have p1 := hJ.o1; have p2 := hJ.o2; have p0 := hJ.o0; refine AF _ (by kernel_rfl) _ _ _ ?_; simp (maxSteps := 1000000) (disch := omega) [go_sem, u2, u4, u5, u7, u53, u54]; refine BM ?_ ?_ <;> intro hc2 <;> (try simp at hc2)
      ·obtain ⟨x, st'', e4, l4, b4, c4⟩ := Ia st' (by have := hJ.len; have := hR.len; omega); have hCl : C'.length = 8 := by rw [hJ.rows.len, hJ.c8]
       have hfi : (fi) < c'.length := by rw [hJ.c8]; omega
       have hfC : (fi) < C'.length := by omega
       rcases hJ.rows.at hfi with ⟨hC, hc0⟩ | ⟨nr, q1, q2, hC, q4⟩
       ·have hCe : C'[fi]'hfC = .v (.slice none 0 0) := by rw [List.getElem?_eq_getElem hfC] at hC; exact Option.some.inj hC
        simp (maxSteps := 1000000) (disch := omega) [go_sem, u2, u4, u5, u7, u53, u54, p2, hCl]; refine By [0, 1, 2, 3, 4, 5, 6, 7, 8, 9] (by kernel_rfl) (by kernel_rfl) (fun _ _ _ _ h => h) ?_; simp (maxSteps := 1000000) (disch := omega) [go_sem, u2, u4, u5, u7, u53, u54, p2, hCl, hCe]; refine CY st' _ p1 (hV.of hJ.ext.sn) e4 ?_; have nx2 := hJ.nx; have n0 : ¬ H.next = H2.next := by omega
        have n1 : ¬ H.next + 1 = H2.next := by omega
        have n2 : ¬ H.next + 2 = H2.next := by omega
        simp (maxSteps := 1000000) (disch := omega) [go_sem, u2, u4, u5, u7, u53, u54, p2, hCl, hCe, BJ, n0, n1, n2]; have n3 : ¬ H2.next = H.next + 2 := by omega
        have n4 : ¬ H2.next = H.next + 1 := by omega
        have ex : c'.set (fi) (c'[fi] ++ [x]) = c'.set (fi) [x] := by rw [hc0]; rfl
        have eC : ∀ y : IV, List.take (fi) C' ++ y :: List.drop (fi + 1) C' = C'.set (fi) y := fun y => by rw [List.set_eq_take_append_cons_drop, if_pos hfC]
        have eT : ∀ y : IV, y :: C'.tail = C'.set 0 y := fun y => by cases C' with | nil => simp at hCl | cons a b => rfl
        refine .of hI2 hμ2 ⟨i + 1, st'', C'.set (fi) (.os H2.next 1), c'.set (fi) (c'[fi] ++ [x]), by simp [go_sem, u2], by simp [go_sem, u4], by simp [go_sem, u5], by simp [go_sem, u7], by simp [go_sem, u53], by simp [go_sem], by omega, ?_⟩ (by simp [go_sem, u54]; omega); refine hJ.next hc2 hfi l4 b4 c4 (by simp [go_sem, p0, n0, FB]) (by simp [go_sem, n1]) (by first | (simp [go_sem, eC]; done) | (simp [go_sem, eT]; done)) (((hJ.ext.set (by omega) _).new _).set (by omega) _) (by simp [go_sem]; omega) ?_; rw [ex]; refine hJ.rows.Lc hfi hc0 (by omega) (Nat.le_refl _) (by simp [go_sem]) (by simp [go_sem]) (fun q o hq hq' e => ?_) (by simp [go_sem, n3, n4]); have m1 : ¬ q = H.next + 2 := by omega
        have m2 : ¬ q = H.next + 1 := by omega
        have m3 : ¬ q = H2.next := by omega
        simp [go_sem, m1, m2, m3, e]
       ·have hCe : C'[fi]'hfC = .os nr c'[fi].length := by rw [List.getElem?_eq_getElem hfC] at hC; exact Option.some.inj hC
        have hfl := hJ.fl _ (List.getElem?_eq_getElem hfi); simp (maxSteps := 1000000) (disch := omega) [go_sem, u2, u4, u5, u7, u53, u54, p2, hCl]; refine By [0, 1, 2, 3, 4, 5, 6, 7, 8, 9] (by kernel_rfl) (by kernel_rfl) (fun _ _ _ _ h => h) ?_; simp (maxSteps := 1000000) (disch := omega) [go_sem, u2, u4, u5, u7, u53, u54, p2, hCl, hCe]; refine CY st' _ p1 (hV.of hJ.ext.sn) e4 ?_; have n0 : ¬ H.next = nr := by omega
        have n1 : ¬ H.next + 1 = nr := by omega
        have n2 : ¬ H.next + 2 = nr := by omega
        have n3 : ¬ nr = H.next + 1 := by omega
        have n4 : ¬ nr = H.next + 2 := by omega
        simp (maxSteps := 1000000) (disch := omega) [go_sem, u2, u4, u5, u7, u53, u54, p2, hCl, hCe, BJ, q4, n0, n1, n2, n3, n4]; have eC : ∀ y : IV, List.take (fi) C' ++ y :: List.drop (fi + 1) C' = C'.set (fi) y := fun y => by rw [List.set_eq_take_append_cons_drop, if_pos hfC]
        have eT : ∀ y : IV, y :: C'.tail = C'.set 0 y := fun y => by cases C' with | nil => simp at hCl | cons a b => rfl
        have el : (c'[fi] ++ [x]).length = c'[fi].length + 1 := by simp
        refine .of hI2 hμ2 ⟨i + 1, st'', C'.set (fi) (.os nr (c'[fi].length + 1)), c'.set (fi) (c'[fi] ++ [x]), by simp [go_sem, u2], by simp [go_sem, u4], by simp [go_sem, u5], by simp [go_sem, u7], by simp [go_sem, u53], by simp [go_sem], by omega, ?_⟩ (by simp [go_sem, u54]; omega); have nx2 := hJ.nx; refine hJ.next hc2 hfi l4 b4 c4 (by simp [go_sem, p0, n0, FB]) (by simp [go_sem, n1]) (by first | (simp [go_sem, eC]; done) | (simp [go_sem, eT]; done)) (((hJ.ext.set (by omega) _).set (by omega) _).set (by omega) _) (by simp [go_sem]; omega) ?_; rw [← el]; refine hJ.rows.Ld hfi hC (by simp [go_sem]) (fun q o hq hq' hne e => ?_) (by simp [go_sem, n3, n4]); have m1 : ¬ q = H.next + 2 := by omega
        have m2 : ¬ q = H.next + 1 := by omega
        simp [go_sem, m1, m2, hne, e]
      ·simp (maxSteps := 1000000) (disch := omega) [go_sem, u2, u4, u5, u7, u53, u54]; have hd := hJ.dead rfl; have hT : Ib s = none := by
        rcases hF with ⟨h, _⟩ | ⟨_, _, hF⟩
        ·rw [hb3] at h; cases h
        ·rw [← g4]; exact Vw f k _ c h0 (by rw [hF, hfx]; rfl) (by omega)
       refine .of hI hμ ⟨st', C', c', fi + 1, f, by simp [go_sem, u2], by simp [go_sem, u4], by simp [go_sem, u5], by simp [go_sem, u7], ⟨p0, p1, p2, hJ.ext, hJ.nx, hJ.rows, hJ.c8, by have := hJ.len; have := hR.len; omega, by omega, fun h => (by rw [hd] at h; cases h), fun _ => hT⟩⟩ ?_; rw [p1, Dc, Dc, hd]; have := hJ.len; simp; omega
     ·simp (maxSteps := 1000000) (disch := omega) [go_sem, t2, t4, t5, t6, hb3, hfx, hik]; refine Bk (fun tm2 H2 => ∃ (i : Nat) (st' : BC) (C' : List IV) (c' : List (List Str)), tm2 2 = .p H.next 0 ∧ tm2 4 = .p (H.next + 1) 0 ∧ tm2 5 = .p (H.next + 2) 0 ∧ tm2 7 = .v (.int .i64 (fi : Nat)) ∧ tm2 53 = .v (.int .i64 n) ∧ tm2 54 = .v (.int .i64 i) ∧ i ≤ n ∧ EC H H2 false st3 c fi n i st' C' c') (fun tm2 _ => n - (intOf (tm2 54)).toNat) (.same ?_) ?_
      ·exact ⟨0, ⟨st3.AB, false⟩, C, c, by simp [go_sem, t2], by simp [go_sem, t4], by simp [go_sem, t5], by simp [go_sem], by simp [go_sem], by simp [go_sem], by omega, mk0 false (fi) (by omega) (fun _ => (by omega))⟩
      rintro I2 μ2 hI2 hμ2 tm2 H2 ⟨i, st', C', c', u2, u4, u5, u7, u53, u54, hi, hJ⟩
      have p1 := hJ.o1; have p2 := hJ.o2; have p0 := hJ.o0; refine AF _ (by kernel_rfl) _ _ _ ?_; simp (maxSteps := 1000000) (disch := omega) [go_sem, u2, u4, u5, u7, u53, u54]; refine BM ?_ ?_ <;> intro hc2 <;> (try simp at hc2)
      ·obtain ⟨x, st'', e4, l4, b4, c4⟩ := Ia st' (by have := hJ.len; have := hR.len; omega); have hCl : C'.length = 8 := by rw [hJ.rows.len, hJ.c8]
       have hfi : (fi) < c'.length := by rw [hJ.c8]; omega
       have hfC : (fi) < C'.length := by omega
       rcases hJ.rows.at hfi with ⟨hC, hc0⟩ | ⟨nr, q1, q2, hC, q4⟩
       ·have hCe : C'[fi]'hfC = .v (.slice none 0 0) := by rw [List.getElem?_eq_getElem hfC] at hC; exact Option.some.inj hC
        simp (maxSteps := 1000000) (disch := omega) [go_sem, u2, u4, u5, u7, u53, u54, p2, hCl]; refine By [0, 1, 2, 3, 4, 5, 6, 7, 8, 9] (by kernel_rfl) (by kernel_rfl) (fun _ _ _ _ h => h) ?_; simp (maxSteps := 1000000) (disch := omega) [go_sem, u2, u4, u5, u7, u53, u54, p2, hCl, hCe]; refine CY st' _ p1 (hV.of hJ.ext.sn) e4 ?_; have nx2 := hJ.nx; have n0 : ¬ H.next = H2.next := by omega
        have n1 : ¬ H.next + 1 = H2.next := by omega
        have n2 : ¬ H.next + 2 = H2.next := by omega
        simp (maxSteps := 1000000) (disch := omega) [go_sem, u2, u4, u5, u7, u53, u54, p2, hCl, hCe, BJ, n0, n1, n2]; have n3 : ¬ H2.next = H.next + 2 := by omega
        have n4 : ¬ H2.next = H.next + 1 := by omega
        have ex : c'.set (fi) (c'[fi] ++ [x]) = c'.set (fi) [x] := by rw [hc0]; rfl
        have eC : ∀ y : IV, List.take (fi) C' ++ y :: List.drop (fi + 1) C' = C'.set (fi) y := fun y => by rw [List.set_eq_take_append_cons_drop, if_pos hfC]
        have eT : ∀ y : IV, y :: C'.tail = C'.set 0 y := fun y => by cases C' with | nil => simp at hCl | cons a b => rfl
        refine .of hI2 hμ2 ⟨i + 1, st'', C'.set (fi) (.os H2.next 1), c'.set (fi) (c'[fi] ++ [x]), by simp [go_sem, u2], by simp [go_sem, u4], by simp [go_sem, u5], by simp [go_sem, u7], by simp [go_sem, u53], by simp [go_sem], by omega, ?_⟩ (by simp [go_sem, u54]; omega); refine hJ.next hc2 hfi l4 b4 c4 (by simp [go_sem, p0, n0, FB]) (by simp [go_sem, n1]) (by first | (simp [go_sem, eC]; done) | (simp [go_sem, eT]; done)) (((hJ.ext.set (by omega) _).new _).set (by omega) _) (by simp [go_sem]; omega) ?_; rw [ex]; refine hJ.rows.Lc hfi hc0 (by omega) (Nat.le_refl _) (by simp [go_sem]) (by simp [go_sem]) (fun q o hq hq' e => ?_) (by simp [go_sem, n3, n4]); have m1 : ¬ q = H.next + 2 := by omega
        have m2 : ¬ q = H.next + 1 := by omega
        have m3 : ¬ q = H2.next := by omega
        simp [go_sem, m1, m2, m3, e]
       ·have hCe : C'[fi]'hfC = .os nr c'[fi].length := by rw [List.getElem?_eq_getElem hfC] at hC; exact Option.some.inj hC
        have hfl := hJ.fl _ (List.getElem?_eq_getElem hfi); simp (maxSteps := 1000000) (disch := omega) [go_sem, u2, u4, u5, u7, u53, u54, p2, hCl]; refine By [0, 1, 2, 3, 4, 5, 6, 7, 8, 9] (by kernel_rfl) (by kernel_rfl) (fun _ _ _ _ h => h) ?_; simp (maxSteps := 1000000) (disch := omega) [go_sem, u2, u4, u5, u7, u53, u54, p2, hCl, hCe]; refine CY st' _ p1 (hV.of hJ.ext.sn) e4 ?_; have n0 : ¬ H.next = nr := by omega
        have n1 : ¬ H.next + 1 = nr := by omega
        have n2 : ¬ H.next + 2 = nr := by omega
        have n3 : ¬ nr = H.next + 1 := by omega
        have n4 : ¬ nr = H.next + 2 := by omega
        simp (maxSteps := 1000000) (disch := omega) [go_sem, u2, u4, u5, u7, u53, u54, p2, hCl, hCe, BJ, q4, n0, n1, n2, n3, n4]; have eC : ∀ y : IV, List.take (fi) C' ++ y :: List.drop (fi + 1) C' = C'.set (fi) y := fun y => by rw [List.set_eq_take_append_cons_drop, if_pos hfC]
        have eT : ∀ y : IV, y :: C'.tail = C'.set 0 y := fun y => by cases C' with | nil => simp at hCl | cons a b => rfl
        have el : (c'[fi] ++ [x]).length = c'[fi].length + 1 := by simp
        refine .of hI2 hμ2 ⟨i + 1, st'', C'.set (fi) (.os nr (c'[fi].length + 1)), c'.set (fi) (c'[fi] ++ [x]), by simp [go_sem, u2], by simp [go_sem, u4], by simp [go_sem, u5], by simp [go_sem, u7], by simp [go_sem, u53], by simp [go_sem], by omega, ?_⟩ (by simp [go_sem, u54]; omega); have nx2 := hJ.nx; refine hJ.next hc2 hfi l4 b4 c4 (by simp [go_sem, p0, n0, FB]) (by simp [go_sem, n1]) (by first | (simp [go_sem, eC]; done) | (simp [go_sem, eT]; done)) (((hJ.ext.set (by omega) _).set (by omega) _).set (by omega) _) (by simp [go_sem]; omega) ?_; rw [← el]; refine hJ.rows.Ld hfi hC (by simp [go_sem]) (fun q o hq hq' hne e => ?_) (by simp [go_sem, n3, n4]); have m1 : ¬ q = H.next + 2 := by omega
        have m2 : ¬ q = H.next + 1 := by omega
        simp [go_sem, m1, m2, hne, e]
      ·simp (maxSteps := 1000000) (disch := omega) [go_sem, u2, u4, u5, u7, u53, u54]; have e0 : n - i = 0 := by omega
       rcases hJ.good rfl with ⟨hd, hT0⟩ | ⟨hd, acc, rfl, ha, hav, hT0⟩
       ·have hT : Ib s = none := by
         rcases hF with ⟨h, _⟩ | ⟨_, _, hF⟩
         ·rw [hb3] at h; cases h
         ·rw [← g4]; exact G0 f k _ c h0 (by rw [hF, hfx, Option.bind_some, hT0]; rfl)
        refine .of hI hμ ⟨st', C', c', fi + 1, f, by simp [go_sem, u2], by simp [go_sem, u4], by simp [go_sem, u5], by simp [go_sem, u7], ⟨p0, p1, p2, hJ.ext, hJ.nx, hJ.rows, hJ.c8, by have := hJ.len; have := hR.len; omega, by omega, fun h => (by rw [hd] at h; cases h), fun _ => hT⟩⟩ ?_; rw [p1, Dc, Dc, hd]; have := hJ.len; simp; omega
       ·rcases hF with ⟨h, _⟩ | ⟨_, hlt, hF⟩
        ·rw [hb3] at h; cases h
        ·rw [e0] at hT0; have hF' : LL st.AB.fs = some (fi, acc, st'.AB.fs) := by rw [hF, hfx, Option.bind_some, hT0]; simp [EK]
         have hle := hJ.len; obtain ⟨f', rfl⟩ : ∃ f', f = f' + 1 := ⟨f - 1, by have : 0 < st.AB.fs.length := List.length_pos_iff.2 h0; omega⟩; have hcon : E2 f' (fi + 1) st'.AB.fs (c.set fi acc) = Ib s := by
          rw [← g4]; exact (SX f' k _ c h0 hF' (by omega)).symm
         refine .of hI hμ ⟨st', C', c.set fi acc, fi + 1, f', by simp [go_sem, u2], by simp [go_sem, u4], by simp [go_sem, u5], by simp [go_sem, u7], ⟨p0, p1, p2, hJ.ext, hJ.nx, hJ.rows, hJ.c8, by have := hR.len; omega, by omega, fun _ => ⟨by omega, ⟨hJ.c8, ?_⟩, fun j hj => ?_, hcon⟩, fun h => (by rw [hd] at h; cases h)⟩⟩ ?_
         ·intro l hl; rcases List.mem_or_eq_of_mem_set hl with hl | rfl
          ·exact g2.2 l hl
          ·exact ⟨by omega, fun v hv => by have := hav v hv; omega⟩
         ·have := g3 j (by omega); rw [List.getD_eq_getElem?_getD] at this ⊢; rw [List.getElem?_set_ne (by omega)]; exact this
         ·rw [p1, Dc, Dc, hd]; simp; omega
end Go.Idl
namespace Go.Idl
open Go Go.Proofs.Tryz Go.RowKit
variable {H : A2} {K : Aw → A2 → Prop}
end Go.Idl
namespace Go.Idl
open Go Go.Proofs.Tryz Go.RowKit
variable {H : A2} {K : Aw → A2 → Prop}
noncomputable def F66 (s : List UInt8) : Option (List (List (List UInt8)) × Int) := gd ((s.length : Int) ≤ 1000000000) (some (GX s))
theorem Vx (s : List UInt8) (hV : VOK prog H) {r : List (List (List UInt8)) × Int} (h : F66 s = some r) (hK : K (.ret (.tu [cS r.1, .v (.int .i64 r.2)])) H) : Ac prog 66 [.v (str s)] H K := by
 obtain ⟨h0, h⟩ := Af.1 h; cases h; exact bZ s (by omega) hV hK
end Go.Idl
namespace Go.Idl
set_option maxHeartbeats 8000000
set_option pp.deepTerms false
set_option maxRecDepth 60000
open Go Go.Proofs.Tryz
structure AL where
 fs : List UInt8
 fat : Int
deriving DecidableEq
def AL.zero : AL := ⟨[], 0⟩
noncomputable def JF (a0 : AL) : Option (Int × Bool) :=
 if (a0.fs.length : Int) ≤ a0.fat then (some (0, false)) else (gd (0 ≤ a0.fat ∧ a0.fat < a0.fs.length) (some ((((a0.fs.getD a0.fat.toNat 0).toNat : Int), true))))
theorem DP {H : A2} {K : Aw → A2 → Prop} (a0 : AL) (ka0 : Nat) (Aq : H.obj ka0 = some (.cells ([.v (str a0.fs), .v (.int .i64 a0.fat)]))) {r : Int × Bool} (h : JF a0 = some r) (hK : K (.ret (.tu [.v (.int .u8 r.1), .v (.bool r.2)])) H) : Ac prog 137 [.p ka0 0] H K := by
 refine Ag (N := 23) func137 (by kernel_rfl) rfl (by kernel_rfl) (by kernel_rfl) fun cb hcb hw hbd hnb => ?_; clear hbd hnb; subst hcb; unfold JF at h; have Db : ka0 < H.next := Nat.lt_of_not_le fun q => by rw [hw _ q] at Aq; cases Aq
 refine wG ?_; refine A3 fun cb hc2 => ?_; refine A3 fun cb hc3 => ?_; refine Ay [] [0, 1, 2, 3, 4, 5, 6, 7, 8, 9] (by kernel_rfl) (by kernel_rfl) (fun _ _ _ _ h => h) ?_; refine sF Aq ?_; subst hc3; refine Ab h eA rfl ?_ ?_
 ·intro c4 h; refine wG ?_; obtain rfl := sI h; refine vS ?_; exact Av (.refl hw) hK
 intro c4 h; simp (disch := omega) at c4; refine vO ?_; subst hc2; refine A3 fun cb hc6 => ?_; refine Ay [] [0, 1, 2, 3, 4, 5, 6, 7, 8, 9, 10] (by kernel_rfl) (by kernel_rfl) (fun _ _ _ _ h => h) ?_; obtain ⟨g7, h⟩ := Af.1 h; refine sF Aq ?_; subst hc6; obtain rfl := sI h; refine vS ?_; exact Av (.refl hw) hK
noncomputable def Ic (a0 : AL) (v10 : AL) : Option (Except Unit ((List UInt8) × AL)) :=
 gd (0 ≤ a0.fat) (gd (a0.fat ≤ v10.fat) (gd (v10.fat ≤ v10.fs.length) ((JF v10).bind fun (x16 : Int × Bool) => if x16.2 = true then ((F80 ((v10.fs.take v10.fat.toNat).drop a0.fat.toNat)).bind fun (x18 : Bool) => if x18 = true then ((F81 ((v10.fs.take v10.fat.toNat).drop a0.fat.toNat)).bind fun (x22 : (List UInt8)) => some ((.ok ((x22, (⟨v10.fs, IntKind.i64.wrap (v10.fat + 1)⟩ : AL)))))) else (some (.error ()))) else (some (.error ())))))
noncomputable def DQ (v7 : Int) (v8 : Bool) (v9 : AL) : Option ((Int × Bool × AL) ⊕ AL) :=
 if v8 = true then (if ¬ v7 = 61 then ((JF ((⟨v9.fs, IntKind.i64.wrap (v9.fat + 1)⟩ : AL))).bind fun (x28 : Int × Bool) => some (.inl ((x28.1, x28.2, (⟨v9.fs, IntKind.i64.wrap (v9.fat + 1)⟩ : AL))))) else (some (.inr v9))) else (some (.inr v9))
noncomputable def Vy (a0 : AL) : Option (Except Unit ((List UInt8) × AL)) :=
 (JF a0).bind fun (x5 : Int × Bool) => (AE (fun (s : Int × Bool × AL) => DQ s.1 s.2.1 s.2.2) (x5.1, x5.2, a0)).bind fun (e : AL) => Ic a0 e
theorem XV {H : A2} {K : Aw → A2 → Prop} (a0 : AL) (ka0 : Nat) (Aq : H.obj ka0 = some (.cells ([.v (str a0.fs), .v (.int .i64 a0.fat)]))) {r : Except Unit ((List UInt8) × AL)} (h : Vy a0 = some r) (hP : ∀ e, r = .error e → K (.pan (GQ e)) (H.del ka0)) (hK : ∀ v : (List UInt8) × AL, r = .ok v → K (.ret (.v (str v.1))) (BJ H [(ka0, .cells ([.v (str v.2.fs), .v (.int .i64 v.2.fat)]))])) : Ac prog 134 [.p ka0 0] H K := by
 refine Ag (N := 65) func134 (by kernel_rfl) rfl (by kernel_rfl) (by kernel_rfl) fun cb hcb hw hbd hnb => ?_; clear hbd hnb; subst hcb; unfold Vy at h; have Db : ka0 < H.next := Nat.lt_of_not_le fun q => by rw [hw _ q] at Aq; cases Aq
 refine wG ?_; refine wF Aq ?_; refine A3 fun cb hc3 => ?_; refine A3 fun cb hc4 => ?_; refine vG ?_; obtain ⟨x5, hx5, h⟩ := A4 h; refine DP a0 ka0 (by assumption) hx5 ?_; refine sG ?_; subst hc4; obtain ⟨y6, hl6q, hk6⟩ := A4 h; refine Az (fun tm' H' => ∃ v10 : AL, v10 = y6 ∧ Ext (H.del ka0) H' ∧ H.next ≤ H'.next ∧ tm' 0 = .p ka0 0 ∧ tm' 3 = .v (.int .i64 a0.fat) ∧ H'.obj ka0 = some (.cells ([.v (str v10.fs), .v (.int .i64 v10.fat)]))) ?_ fun cb hc6 => ?_
 ·rintro tm6e H6e ⟨v10, rfl, he6e, hl6e, t0_6e, t3_6e, ob0_6e⟩
  have h : Ic a0 v10 = some r := hk6; unfold Ic at h; simp -implicitDefEqProofs only [go_sem]; subst hc3; refine A3 fun cb hc11 => ?_; refine Ay [] [0, 1, 2, 3, 4, 5, 6, 7, 8, 9, 10] (by kernel_rfl) (by kernel_rfl) (fun _ _ _ _ h => h) ?_; obtain ⟨g12, h⟩ := Af.1 h; obtain ⟨g13, h⟩ := Af.1 h; obtain ⟨g14, h⟩ := Af.1 h; refine sF (nd t0_6e (nd t3_6e ob0_6e)) ?_; subst hc11; refine A3 fun cb hc15 => ?_; refine vF t0_6e ?_; obtain ⟨x16, hx16, h⟩ := A4 h; refine DP v10 ka0 (by assumption) hx16 ?_; refine sG ?_; subst hc15; refine A3 fun cb hc17 => ?_; refine vG ?_; refine A6 h eA ?_ ?_
  ·intro c23 h; refine sG ?_; obtain ⟨x18, hx18, h⟩ := A4 h; refine UF ((v10.fs.take v10.fat.toNat).drop a0.fat.toNat) hx18 ?_; refine sG ?_; refine Ac.eqA (args' := [.v (.bool x18)]) rfl ?_; by_cases m19 : ¬ (x18 = true)
   ·rw [if_neg m19] at h; refine Cd  (by simpa using m19) ?_; simp (disch := omega) at m19; obtain rfl := sI h; refine sG ?_; exact Fu (by exact ER he6e) ((Dl.refl _).del ka0) (hP _ rfl)
   have m19 := Classical.not_not.1 m19; rw [if_pos m19] at h; refine GR  (by simpa using m19) ?_; refine sG ?_; subst hc17; refine wF (nd t0_6e ob0_6e) ?_; refine A3 fun cb hc21 => ?_; refine vG ?_; obtain ⟨x22, hx22, h⟩ := A4 h; refine Uv ((v10.fs.take v10.fat.toNat).drop a0.fat.toNat) hx22 ?_; refine sG ?_; subst hc21; obtain rfl := sI h; refine vS ?_; refine As (r' := .v (str x22)) (io1 ka0 (.cells ([.v (str v10.fs), .v (.int .i64 (IntKind.i64.wrap (v10.fat + 1)))])) (by exact Au he6e) (by omega) (by simp -implicitDefEqProofs (disch := omega) [go_sem]) (by exact Bp)) rfl (.same (by exact nbA)) (hK _ rfl)
  intro c23 h; simp (disch := omega) at c23; refine sG ?_; refine Cd  rfl ?_; obtain rfl := sI h; refine sG ?_; exact Fu (by exact ER he6e) ((Dl.refl _).del ka0) (hP _ rfl)
 refine Ak ?_; refine AA (fun (s : Int × Bool × AL) tm' H' => Ext (H.del ka0) H' ∧ H.next ≤ H'.next ∧ tm' 0 = .p ka0 0 ∧ tm' 3 = .v (.int .i64 a0.fat) ∧ tm' 4 = .v (.int .u8 s.1) ∧ tm' 5 = .v (.bool s.2.1) ∧ H'.obj ka0 = some (.cells ([.v (str s.2.2.fs), .v (.int .i64 s.2.2.fat)]))) hl6q ?_ ?_
 ·refine .same ⟨by exact Au (Ext.AK (Ext.refl hw) ka0), by omega, ?_, ?_, ?_, ?_, ?_⟩ <;> first | with_reducible assumption | (simp -implicitDefEqProofs (disch := omega) [go_sem] <;> omega)
 rintro I6 hI6 ⟨v7, v8, v9⟩ x6 tm6 H6 ⟨he6, hl6, Vz, Qz, GY, nG, EL⟩ h hret6
 replace h : DQ v7 v8 v9 = some x6 := h; unfold DQ at h; refine A3 fun cb hc24 => ?_; refine A3 fun cb hc25 => ?_; refine vF nG ?_; refine A6 h eA ?_ ?_
 ·intro c29 h; refine sF GY ?_; subst hc25; refine Ab h eA rfl ?_ ?_
  ·intro c26 h; refine vO ?_; subst hc24; refine A3 fun cb hc27 => ?_; refine Ak ?_; refine vF (nd Vz EL) ?_; subst hc27; refine vF Vz ?_; obtain ⟨x28, hx28, h⟩ := A4 h; refine DP ((⟨v9.fs, IntKind.i64.wrap (v9.fat + 1)⟩ : AL)) ka0 eA hx28 ?_; refine sG ?_; obtain rfl := sI h; refine An hI6 ((x28.1, x28.2, (⟨v9.fs, IntKind.i64.wrap (v9.fat + 1)⟩ : AL))) ?_; refine .same ⟨by exact Au he6, by (simp -implicitDefEqProofs (disch := omega) [go_sem] <;> omega), ?_, ?_, ?_, ?_, ?_⟩ <;> (simp -implicitDefEqProofs (disch := omega) [go_sem, Vz, Qz] <;> omega)
  intro c26 h; simp (disch := omega) at c26; refine vO ?_; obtain rfl := sI h; have hy6 := hret6 _ rfl; refine hc6 _ _ ?_; refine .same ⟨v9, hy6, by exact Au he6, by with_reducible assumption, ?_, ?_, ?_⟩ <;> first | with_reducible assumption | (simp -implicitDefEqProofs (disch := omega) [go_sem, Vz, Qz] <;> omega)
 intro c29 h; simp (disch := omega) at c29; refine sG ?_; subst hc25; refine Ap eA rfl ?_; refine vO ?_; obtain rfl := sI h; have hy6 := hret6 _ rfl; refine hc6 _ _ ?_; refine .same ⟨v9, hy6, by exact Au he6, by with_reducible assumption, ?_, ?_, ?_⟩ <;> first | with_reducible assumption | (simp -implicitDefEqProofs (disch := omega) [go_sem, Vz, Qz] <;> omega)
noncomputable def P4 (a0 : Int) : Option Int :=
 (G9 a0 48 57).bind fun (x4 : Bool) => if x4 = true then (some (IntKind.u8.wrap (a0 - 48))) else ((G9 a0 97 102).bind fun (x8 : Bool) => if x8 = true then (some (IntKind.u8.wrap ((IntKind.u8.wrap (a0 - 97)) + 10))) else ((G9 a0 65 70).bind fun (x12 : Bool) => if x12 = true then (some (IntKind.u8.wrap ((IntKind.u8.wrap (a0 - 65)) + 10))) else (some 16)))
theorem K2 {H : A2} {K : Aw → A2 → Prop} (a0 : Int) {r : Int} (h : P4 a0 = some r) (hK : K (.ret (.v (.int .u8 r))) H) : Ac prog 183 [.v (.int .u8 a0)] H K := by
 refine Ag (N := 20) func183 (by kernel_rfl) rfl (by kernel_rfl) (by kernel_rfl) fun cb hcb hw hbd hnb => ?_; clear hbd hnb; subst hcb; unfold P4 at h; refine wG ?_; refine A3 fun cb hc2 => ?_; refine Ak ?_; refine A3 fun cb hc3 => ?_; refine vG ?_; obtain ⟨x4, hx4, h⟩ := A4 h; refine FQ a0 48 57 hx4 ?_; refine sG ?_; subst hc3; refine Ab h eA rfl ?_ ?_
 ·intro c5 h; refine wG ?_; obtain rfl := sI h; refine vS ?_; exact Av (.refl hw) hK
 intro c5 h; simp (disch := omega) at c5; refine A3 fun cb hc7 => ?_; refine vG ?_; obtain ⟨x8, hx8, h⟩ := A4 h; refine FQ a0 97 102 hx8 ?_; refine sG ?_; subst hc7; refine Ab h eA rfl ?_ ?_
 ·intro c9 h; refine wG ?_; obtain rfl := sI h; refine vS ?_; exact Av (.refl hw) hK
 intro c9 h; simp (disch := omega) at c9; refine A3 fun cb hc11 => ?_; refine vG ?_; obtain ⟨x12, hx12, h⟩ := A4 h; refine FQ a0 65 70 hx12 ?_; refine sG ?_; subst hc11; refine Ab h eA rfl ?_ ?_
 ·intro c13 h; refine wG ?_; obtain rfl := sI h; refine vS ?_; exact Av (.refl hw) hK
 intro c13 h; simp (disch := omega) at c13; refine vO ?_; subst hc2; refine wG ?_; obtain rfl := sI h; refine vS ?_; exact Av (.refl hw) hK
noncomputable def SY (a0 : AL) : Option (Except Unit (Int × AL)) :=
 (JF a0).bind fun (x3 : Int × Bool) => if x3.2 = true then ((Qb ).bind fun (x9 : (List (Int × Bool))) => if (AY x9 x3.1).getD false = true then (some ((.ok ((x3.1, (⟨a0.fs, IntKind.i64.wrap (a0.fat + 1)⟩ : AL)))))) else (if x3.1 = 32 then (some ((.ok ((x3.1, (⟨a0.fs, IntKind.i64.wrap (a0.fat + 1)⟩ : AL)))))) else (if x3.1 = 35 then (some ((.ok ((x3.1, (⟨a0.fs, IntKind.i64.wrap (a0.fat + 1)⟩ : AL)))))) else ((JF ((⟨a0.fs, IntKind.i64.wrap (a0.fat + 1)⟩ : AL))).bind fun (x15 : Int × Bool) => if x15.2 = true then ((P4 x3.1).bind fun (x17 : Int) => if x17 < 16 then ((P4 x15.1).bind fun (x18 : Int) => if x18 < 16 then ((P4 x3.1).bind fun (x22 : Int) => (P4 x15.1).bind fun (x23 : Int) => some ((.ok ((orI .u8 (IntKind.u8.wrap (x22 * 16)) x23, (⟨a0.fs, IntKind.i64.wrap ((IntKind.i64.wrap (a0.fat + 1)) + 1)⟩ : AL)))))) else (some (.error ()))) else (some (.error ()))) else (some (.error ())))))) else (some (.error ()))
theorem XW {H : A2} {K : Aw → A2 → Prop} (a0 : AL) (ka0 : Nat) (Aq : H.obj ka0 = some (.cells ([.v (str a0.fs), .v (.int .i64 a0.fat)]))) {r : Except Unit (Int × AL)} (h : SY a0 = some r) (hP : ∀ e, r = .error e → K (.pan (GQ e)) (H.del ka0)) (hK : ∀ v : Int × AL, r = .ok v → K (.ret (.v (.int .u8 v.1))) (BJ H [(ka0, .cells ([.v (str v.2.fs), .v (.int .i64 v.2.fat)]))])) : Ac prog 157 [.p ka0 0] H K := by
 refine Ag (N := 62) func157 (by kernel_rfl) rfl (by kernel_rfl) (by kernel_rfl) fun cb hcb hw hbd hnb => ?_; clear hbd hnb; subst hcb; unfold SY at h; have Db : ka0 < H.next := Nat.lt_of_not_le fun q => by rw [hw _ q] at Aq; cases Aq
 refine wG ?_; refine A3 fun cb hc2 => ?_; refine vG ?_; obtain ⟨x3, hx3, h⟩ := A4 h; refine DP a0 ka0 (by assumption) hx3 ?_; refine sG ?_; subst hc2; refine A3 fun cb hc4 => ?_; refine vG ?_; refine Ac.eqA (args' := [.v (.bool x3.2)]) rfl ?_; by_cases m5 : ¬ (x3.2 = true)
 ·rw [if_neg m5] at h; refine Cd  (by simpa using m5) ?_; simp (disch := omega) at m5; obtain rfl := sI h; refine sG ?_; exact Fu (by exact ER (Ext.AK (Ext.refl hw) ka0)) ((Dl.refl _).del ka0) (hP _ rfl)
 have m5 := Classical.not_not.1 m5; rw [if_pos m5] at h; refine GR  (by simpa using m5) ?_; refine sG ?_; subst hc4; refine wF Aq ?_; refine A3 fun cb hc7 => ?_; refine A3 fun cb hc8 => ?_; refine vG ?_; obtain ⟨x9, hx9, h⟩ := A4 h; refine Nh  hx9 ?_; have hmL181 := @PU _ .u8 (fun (x : Bool) => .v (.bool x)); have hmF181 := fun o => M0 (fun (x : Bool) => .v (.bool x)) false (z := .v (.bool false)) (o := o) (by rfl); refine sF (nd @hmL181 @hmF181) ?_; refine A6 h eA ?_ ?_
 ·intro c27 h; refine sG ?_; subst hc8; refine Ao eA rfl ?_; refine wG ?_; obtain rfl := sI h; refine vS ?_; refine As (r' := .v (.int .u8 x3.1)) (io1 ka0 (.cells ([.v (str a0.fs), .v (.int .i64 (IntKind.i64.wrap (a0.fat + 1)))])) (by exact Au (Ext.AK (Ext.refl hw) ka0)) (by omega) (by simp -implicitDefEqProofs (disch := omega) [go_sem]) (by exact Bp)) rfl (.same (by exact nbA)) (hK _ rfl)
 intro c27 h; simp (disch := omega) at c27; refine sG ?_; refine A6 h rfl ?_ ?_
 ·intro c26 h; refine sG ?_; subst hc8; refine Ao eA rfl ?_; refine wG ?_; obtain rfl := sI h; refine vS ?_; refine As (r' := .v (.int .u8 x3.1)) (io1 ka0 (.cells ([.v (str a0.fs), .v (.int .i64 (IntKind.i64.wrap (a0.fat + 1)))])) (by exact Au (Ext.AK (Ext.refl hw) ka0)) (by omega) (by simp -implicitDefEqProofs (disch := omega) [go_sem]) (by exact Bp)) rfl (.same (by exact nbA)) (hK _ rfl)
 intro c26 h; refine sG ?_; subst hc8; refine Ab h eA rfl ?_ ?_
 ·intro c12 h; refine wG ?_; obtain rfl := sI h; refine vS ?_; refine As (r' := .v (.int .u8 x3.1)) (io1 ka0 (.cells ([.v (str a0.fs), .v (.int .i64 (IntKind.i64.wrap (a0.fat + 1)))])) (by exact Au (Ext.AK (Ext.refl hw) ka0)) (by omega) (by simp -implicitDefEqProofs (disch := omega) [go_sem]) (by exact Bp)) rfl (.same (by exact nbA)) (hK _ rfl)
 intro c12 h; refine vO ?_; subst hc7; refine A3 fun cb hc14 => ?_; refine vG ?_; obtain ⟨x15, hx15, h⟩ := A4 h; refine DP ((⟨a0.fs, IntKind.i64.wrap (a0.fat + 1)⟩ : AL)) ka0 eA hx15 ?_; refine sG ?_; subst hc14; refine A3 fun cb hc16 => ?_; refine vG ?_; refine A6 h eA ?_ ?_
 ·intro c25 h; refine sG ?_; obtain ⟨x17, hx17, h⟩ := A4 h; refine K2 x3.1 hx17 ?_; refine sG ?_; refine A6 h rfl ?_ ?_
  ·intro c24 h; refine sG ?_; obtain ⟨x18, hx18, h⟩ := A4 h; refine K2 x15.1 hx18 ?_; refine sG ?_; refine Ac.eqA (args' := [.v (.bool (decide (x18 < 16)))]) rfl ?_; by_cases m19 : ¬ (x18 < 16)
   ·rw [if_neg m19] at h; refine Cd  (by simpa using m19) ?_; simp (disch := omega) at m19; obtain rfl := sI h; refine sG ?_; exact Fu (by exact ER (Ext.AK (Ext.refl hw) ka0)) ((Dl.refl _).del ka0) (hP _ rfl)
   have m19 := Classical.not_not.1 m19; rw [if_pos m19] at h; refine GR  (by simpa using m19) ?_; refine sG ?_; subst hc16; refine wG ?_; refine A3 fun cb hc21 => ?_; refine vG ?_; obtain ⟨x22, hx22, h⟩ := A4 h; refine K2 x3.1 hx22 ?_; refine sG ?_; obtain ⟨x23, hx23, h⟩ := A4 h; refine K2 x15.1 hx23 ?_; refine sG ?_; subst hc21; obtain rfl := sI h; refine vS ?_; refine As (r' := .v (.int .u8 (orI .u8 (IntKind.u8.wrap (x22 * 16)) x23))) (io1 ka0 (.cells ([.v (str a0.fs), .v (.int .i64 (IntKind.i64.wrap ((IntKind.i64.wrap (a0.fat + 1)) + 1)))])) (by exact Au (Ext.AK (Ext.refl hw) ka0)) (by omega) (by simp -implicitDefEqProofs (disch := omega) [go_sem]) (by exact Bp)) rfl (.same (by exact nbA)) (hK _ rfl)
  intro c24 h; simp (disch := omega) at c24; refine sG ?_; refine Cd  rfl ?_; obtain rfl := sI h; refine sG ?_; exact Fu (by exact ER (Ext.AK (Ext.refl hw) ka0)) ((Dl.refl _).del ka0) (hP _ rfl)
 intro c25 h; simp (disch := omega) at c25; refine sG ?_; refine Cd  rfl ?_; obtain rfl := sI h; refine sG ?_; exact Fu (by exact ER (Ext.AK (Ext.refl hw) ka0)) ((Dl.refl _).del ka0) (hP _ rfl)
noncomputable def Ie (v15 : List UInt8) (v17 : Bool) (v18 : AL) : Option (Except Unit ((List UInt8) × AL)) :=
 if ¬ (v17 = true) then (if 1 ≤ (v15.length : Int) then (if (v15.length : Int) ≤ 200 then (some ((.ok (v15, v18)))) else (some (.error ()))) else (some (.error ()))) else (some (.error ()))
noncomputable def D7 (v12 : Int) (v28 : List UInt8) (v30 : AL) : Option (((List UInt8) × Bool × Bool × Int × Bool × AL) ⊕ (((List UInt8) × Bool × AL) ⊕ (Except Unit ((List UInt8) × AL)))) :=
 (JF v30).bind fun (x31 : Int × Bool) => some (.inl ((v28, false, decide (v12 = 32), x31.1, x31.2, v30)))
noncomputable def CZ (v8 : List UInt8) (v10 : Bool) (v11 : Bool) (v12 : Int) (v13 : Bool) (v14 : AL) : Option (((List UInt8) × Bool × Bool × Int × Bool × AL) ⊕ (((List UInt8) × Bool × AL) ⊕ (Except Unit ((List UInt8) × AL)))) :=
 if v13 = true then (if ¬ v12 = 44 then (if v12 = 92 then ((SY ((⟨v14.fs, IntKind.i64.wrap (v14.fat + 1)⟩ : AL))).bind fun (x37 : Except Unit (Int × AL)) => orP x37 (fun (ex37 : Unit) => some (.inr (.inr (.error ex37)))) (fun (y38 : Int × AL) => gd (0 ≤ y38.1 ∧ y38.1 ≤ 255) (gd ((v8.length + ([UInt8.ofNat y38.1.toNat]).length) * 1 ≤ 140737488355328) (D7 v12 (v8 ++ ([UInt8.ofNat y38.1.toNat])) y38.2)))) else ((Qb ).bind fun (x42 : (List (Int × Bool))) => if ¬ ((AY x42 v12).getD false = true) then (if 32 ≤ v12 then (if v12 ≤ 126 then (if ¬ (v10 = true) then (gd (0 ≤ v12 ∧ v12 ≤ 255) (gd ((v8.length + ([UInt8.ofNat v12.toNat]).length) * 1 ≤ 140737488355328) (D7 v12 (v8 ++ ([UInt8.ofNat v12.toNat])) ((⟨v14.fs, IntKind.i64.wrap (v14.fat + 1)⟩ : AL))))) else (if ¬ v12 = 32 then (if ¬ v12 = 35 then (gd (0 ≤ v12 ∧ v12 ≤ 255) (gd ((v8.length + ([UInt8.ofNat v12.toNat]).length) * 1 ≤ 140737488355328) (D7 v12 (v8 ++ ([UInt8.ofNat v12.toNat])) ((⟨v14.fs, IntKind.i64.wrap (v14.fat + 1)⟩ : AL))))) else (some (.inr (.inr (.error ()))))) else (some (.inr (.inr (.error ())))))) else (some (.inr (.inr (.error ()))))) else (some (.inr (.inr (.error ()))))) else (some (.inr (.inr (.error ())))))) else (some (.inr (.inl (v8, v11, v14))))) else (some (.inr (.inl (v8, v11, v14))))
noncomputable def QA (a0 : AL) : Option (Except Unit ((List UInt8) × AL)) :=
 (JF a0).bind fun (x6 : Int × Bool) => (AE (fun (s : (List UInt8) × Bool × Bool × Int × Bool × AL) => CZ s.1 s.2.1 s.2.2.1 s.2.2.2.1 s.2.2.2.2.1 s.2.2.2.2.2) ([], true, false, x6.1, x6.2, a0)).bind fun y => Sum.elim (fun (e : (List UInt8) × Bool × AL) => Ie e.1 e.2.1 e.2.2) (fun (q : Except Unit ((List UInt8) × AL)) => some q) y
theorem XX {H : A2} {K : Aw → A2 → Prop} (a0 : AL) (ka0 : Nat) (Aq : H.obj ka0 = some (.cells ([.v (str a0.fs), .v (.int .i64 a0.fat)]))) {r : Except Unit ((List UInt8) × AL)} (h : QA a0 = some r) (hP : ∀ e, r = .error e → K (.pan (GQ e)) (H.del ka0)) (hK : ∀ v : (List UInt8) × AL, r = .ok v → K (.ret (.v (str v.1))) (BJ H [(ka0, .cells ([.v (str v.2.fs), .v (.int .i64 v.2.fat)]))])) : Ac prog 135 [.p ka0 0] H K := by
 refine Ag (N := 80) func135 (by kernel_rfl) rfl (by kernel_rfl) (by kernel_rfl) fun cb hcb hw hbd hnb => ?_; clear hbd hnb; subst hcb; unfold QA at h; have Db : ka0 < H.next := Nat.lt_of_not_le fun q => by rw [hw _ q] at Aq; cases Aq
 refine A3 fun cb hc1 => ?_; refine vcK ?_; simp -implicitDefEqProofs (disch := omega) [go_sem]; subst hc1; refine A3 fun cb hc2 => ?_; refine vcK ?_; simp -implicitDefEqProofs (disch := omega) [go_sem]; subst hc2; refine A3 fun cb hc3 => ?_; refine vcK ?_; simp -implicitDefEqProofs (disch := omega) [go_sem]; subst hc3; refine A3 fun cb hc4 => ?_; refine A3 fun cb hc5 => ?_; refine vcK ?_; simp -implicitDefEqProofs (disch := omega) [go_sem]; obtain ⟨x6, hx6, h⟩ := A4 h; refine Ac.eqA (args' := [.p ka0 0]) rfl (DP a0 ka0 (by assumption) hx6 ?_); simp -implicitDefEqProofs (disch := omega) [go_sem]; subst hc5; obtain ⟨y7, hl7q, hk7⟩ := A4 h; refine Az (fun tm' H' => ∃ n16 : Nat, ∃ v15 : List UInt8, ∃ v17 : Bool, ∃ v18 : AL, .inl (v15, v17, v18) = y7 ∧ Ext (H.del ka0) H' ∧ H.next ≤ H'.next ∧ H.next ≤ n16 ∧ n16 < H'.next ∧ ¬ ka0 = n16 ∧ tm' 3 = .os n16 v15.length ∧ tm' 5 = .v (.bool v17) ∧ H'.obj ka0 = some (.cells ([.v (str v18.fs), .v (.int .i64 v18.fat)])) ∧ H'.obj n16 = some (.row 1 (v15.map fun x => [.v (.int .u8 x.toNat)]))) ?_ fun cb hc7 => ?_
 ·rintro tm7e H7e ⟨n16, v15, v17, v18, rfl, he7e, hl7e, hr0_7e, hs0_7e, hq57, t3_7e, t5_7e, ob0_7e, or0_7e⟩
  have h : Ie v15 v17 v18 = some r := hk7; unfold Ie at h; simp -implicitDefEqProofs only [go_sem]; subst hc4; refine A3 fun cb hc19 => ?_; refine vcK ?_; simp -implicitDefEqProofs (disch := omega) [go_sem, t5_7e]; refine A6 h (by (simp -implicitDefEqProofs (disch := omega) [go_sem] <;> omega)) ?_ ?_
  ·intro c23 h; simp (disch := omega) at c23; simp -implicitDefEqProofs (disch := omega) [go_sem, t3_7e]; refine A6 h rfl ?_ ?_
   ·intro c22 h; simp -implicitDefEqProofs (disch := omega) [go_sem, t3_7e]; refine Ac.eqA (args' := [.v (.bool (decide ((v15.length : Int) ≤ 200)))]) rfl ?_; by_cases m20 : ¬ ((v15.length : Int) ≤ 200)
    ·rw [if_neg m20] at h; refine Cd  (by simpa using m20) ?_; simp (disch := omega) at m20; have er := Option.some.inj h; subst er; simp -implicitDefEqProofs (disch := omega) [go_sem]; exact Fu (by exact ER he7e) ((Dl.refl _).del ka0) (hP _ rfl)
    have m20 := Classical.not_not.1 m20; rw [if_pos m20] at h; refine GR  (by simpa using m20) ?_; simp -implicitDefEqProofs (disch := omega) [go_sem]; subst hc19; refine A3 fun cb hc21 => ?_; refine IWp.gh (Gh.freeze (d := 3) (k := n16) (sz := 1) (es := v15.map fun x => [.v (.int .u8 x.toNat)]) (by (simp -implicitDefEqProofs (disch := omega) [go_sem, or0_7e] <;> omega)) (by (simp -implicitDefEqProofs (disch := omega) [go_sem, t3_7e] <;> omega))) ?_; refine vcK ?_; simp -implicitDefEqProofs (disch := omega) [go_sem]; subst hc21; refine vcK ?_; simp -implicitDefEqProofs only [go_sem]; have er := Option.some.inj h; subst er; simp -implicitDefEqProofs (disch := omega) [go_sem]; refine As (r' := .v (str v15)) (io1 ka0 (.cells ([.v (str v18.fs), .v (.int .i64 v18.fat)])) (by exact Au he7e) (by omega) (by simp -implicitDefEqProofs (disch := omega) [go_sem, ob0_7e]) (by exact Bp)) rfl (.same (by exact nbA)) (hK _ rfl)
   intro c22 h; simp (disch := omega) at c22; simp -implicitDefEqProofs (disch := omega) [go_sem]; refine Ac.eqA (args' := [.v (.bool false)]) rfl (Cd  rfl ?_); have er := Option.some.inj h; subst er; simp -implicitDefEqProofs (disch := omega) [go_sem]; exact Fu (by exact ER he7e) ((Dl.refl _).del ka0) (hP _ rfl)
  intro c23 h; simp (disch := omega) at c23; simp -implicitDefEqProofs (disch := omega) [go_sem]; refine Ac.eqA (args' := [.v (.bool false)]) rfl (Cd  rfl ?_); have er := Option.some.inj h; subst er; simp -implicitDefEqProofs (disch := omega) [go_sem]; exact Fu (by exact ER he7e) ((Dl.refl _).del ka0) (hP _ rfl)
 refine Ak ?_; refine AA (fun (s : (List UInt8) × Bool × Bool × Int × Bool × AL) tm' H' => ∃ n9 : Nat, Ext (H.del ka0) H' ∧ H.next ≤ H'.next ∧ H.next ≤ n9 ∧ n9 < H'.next ∧ ¬ ka0 = n9 ∧ tm' 0 = .p ka0 0 ∧ tm' 3 = .os n9 s.1.length ∧ tm' 4 = .v (.bool s.2.1) ∧ tm' 5 = .v (.bool s.2.2.1) ∧ tm' 6 = .v (.int .u8 s.2.2.2.1) ∧ tm' 7 = .v (.bool s.2.2.2.2.1) ∧ H'.obj ka0 = some (.cells ([.v (str s.2.2.2.2.2.fs), .v (.int .i64 s.2.2.2.2.2.fat)])) ∧ H'.obj n9 = some (.row 1 (s.1.map fun x => [.v (.int .u8 x.toNat)]))) hl7q ?_ ?_
 ·refine UpI.gh (Gh.PZ (d := 3) (sz := 1) (by omega) (by (simp -implicitDefEqProofs (disch := omega) [go_sem] <;> omega))) ?_; refine .same ⟨H.next, by exact Au (Ext.AK (Ext.refl hw) ka0), by (simp -implicitDefEqProofs (disch := omega) [go_sem] <;> omega), by omega, by (simp -implicitDefEqProofs (disch := omega) [go_sem] <;> omega), by omega, ?_, ?_, ?_, ?_, ?_, ?_, ?_, ?_⟩ <;> (simp -implicitDefEqProofs (disch := omega) [go_sem, Aq] <;> omega)
 rintro I7 hI7 ⟨v8, v10, v11, v12, v13, v14⟩ x7 tm7 H7 ⟨n9, he7, hl7, oD, oF, hq58, VA, VB, nH, jv, LM, nI, jw, VC⟩ h hret7
 replace h : CZ v8 v10 v11 v12 v13 v14 = some x7 := h; unfold CZ at h; refine A3 fun cb hc24 => ?_; refine A3 fun cb hc25 => ?_; refine vcK ?_; simp -implicitDefEqProofs (disch := omega) [go_sem, nI]; refine A6 h (by (simp -implicitDefEqProofs (disch := omega) [go_sem] <;> omega)) ?_ ?_
 ·intro c56 h; simp -implicitDefEqProofs (disch := omega) [go_sem, LM]; subst hc25; refine Ab h (by (simp -implicitDefEqProofs (disch := omega) [go_sem] <;> omega)) rfl ?_ ?_
  ·intro c26 h; refine vcK ?_; simp -implicitDefEqProofs only [go_sem]; subst hc24; refine BE (fun tm' H' => ∃ n29 : Nat, ∃ v28 : List UInt8, ∃ v30 : AL, Ext (H.del ka0) H' ∧ H7.next ≤ H'.next ∧ H.next ≤ n29 ∧ n29 < H'.next ∧ ¬ ka0 = n29 ∧ tm' 0 = .p ka0 0 ∧ tm' 3 = .os n29 v28.length ∧ tm' 4 = .v (.bool false) ∧ tm' 5 = .v (.bool (decide (v12 = 32))) ∧ H'.obj ka0 = some (.cells ([.v (str v30.fs), .v (.int .i64 v30.fat)])) ∧ H'.obj n29 = some (.row 1 (v28.map fun x => [.v (.int .u8 x.toNat)])) ∧ D7 v12 v28 v30 = some x7) ?_ fun cb hc27 => ?_
   ·rintro tm27 H27 ⟨n29, v28, v30, he27, hl27, nJ, nK, hq55, Z5, jx, jy, jz, nL, nM, h⟩
    unfold D7 at h; refine vcK ?_; simp -implicitDefEqProofs (disch := omega) [go_sem, Z5]; obtain ⟨x31, hx31, h⟩ := A4 h; refine Ac.eqA (args' := [.p ka0 0]) rfl (DP v30 ka0 (by assumption) hx31 ?_); simp -implicitDefEqProofs (disch := omega) [go_sem]; have e7 := Option.some.inj h; subst e7; refine An hI7 ((v28, false, decide (v12 = 32), x31.1, x31.2, v30)) ?_; refine .same ⟨n29, by exact Au he27, by omega, by with_reducible assumption, by with_reducible assumption, by with_reducible assumption, ?_, ?_, ?_, ?_, ?_, ?_, ?_, ?_⟩ <;> first | with_reducible assumption | (simp -implicitDefEqProofs (disch := omega) [go_sem, Z5, jx, jy, jz] <;> omega)
   refine Ak ?_; refine A3 fun cb hc32 => ?_; refine vcK ?_; simp -implicitDefEqProofs (disch := omega) [go_sem, VA, jw]; subst hc32; refine A3 fun cb hc33 => ?_; refine vcK ?_; simp -implicitDefEqProofs (disch := omega) [go_sem, LM]; subst hc33; refine A3 fun cb hc34 => ?_; refine A3 fun cb hc35 => ?_; refine vcK ?_; simp -implicitDefEqProofs (disch := omega) [go_sem, LM]; subst hc35; refine Ab h (by (simp -implicitDefEqProofs (disch := omega) [go_sem] <;> omega)) rfl ?_ ?_
   ·intro c36 h; refine vcK ?_; simp -implicitDefEqProofs (disch := omega) [go_sem, VA]; obtain ⟨x37, hx37, h⟩ := A4 h; refine Ac.eqA (args' := [.p ka0 0]) rfl (XW ((⟨v14.fs, IntKind.i64.wrap (v14.fat + 1)⟩ : AL)) ka0 (by simp -implicitDefEqProofs (disch := omega) [go_sem]) hx37 ?_ ?_)
    ·intro ex37 qx37; subst qx37; replace h := HW h; have e7 := Option.some.inj h; subst e7; have e7 := hret7 _ rfl; subst e7; replace h : some (.error ex37) = some r := hk7; have er := Option.some.inj h; subst er; simp -implicitDefEqProofs (disch := omega) [go_sem]; exact Fu (by exact ER he7) ((Dl.refl _).del ka0) (hP _ rfl)
    intro y38 qx37; subst qx37; replace h := JZ h; simp -implicitDefEqProofs (disch := omega) [go_sem]; subst hc34; refine A3 fun cb hc39 => ?_; refine vcK ?_; obtain ⟨g40, h⟩ := Af.1 h; obtain ⟨g41, h⟩ := Af.1 h; simp (disch := omega) at g41; simp -implicitDefEqProofs (disch := omega) [go_sem, VB, VC]; subst hc39; refine vcK ?_; simp -implicitDefEqProofs (disch := omega) [go_sem]; refine hc27 _ _ ?_; refine .same ⟨n9, (v8 ++ ([UInt8.ofNat y38.1.toNat])), y38.2, by exact Au he7, by (simp -implicitDefEqProofs (disch := omega) [go_sem] <;> omega), by with_reducible assumption, by (simp -implicitDefEqProofs (disch := omega) [go_sem] <;> omega), by with_reducible assumption, ?_, ?_, ?_, ?_, ?_, ?_, h⟩ <;> (simp -implicitDefEqProofs (disch := omega) [go_sem, VA] <;> omega)
   intro c36 h; refine vcK ?_; simp -implicitDefEqProofs (disch := omega) [go_sem]; obtain ⟨x42, hx42, h⟩ := A4 h; refine Ac.eqA (args' := []) rfl (Nh  hx42 ?_); have hmL181 := @PU _ .u8 (fun (x : Bool) => .v (.bool x)); have hmF181 := fun o => M0 (fun (x : Bool) => .v (.bool x)) false (z := .v (.bool false)) (o := o) (by rfl); simp -implicitDefEqProofs (disch := omega) [go_sem, LM, hmL181, hmF181]; refine A6 h (by (simp -implicitDefEqProofs (disch := omega) [go_sem] <;> omega)) ?_ ?_
   ·intro c54 h; simp (disch := omega) at c54; simp -implicitDefEqProofs (disch := omega) [go_sem, LM]; refine A6 h rfl ?_ ?_
    ·intro c53 h; simp -implicitDefEqProofs (disch := omega) [go_sem, LM]; refine A6 h rfl ?_ ?_
     ·intro c52 h; simp -implicitDefEqProofs (disch := omega) [go_sem, nH]; refine A6 h (by (simp -implicitDefEqProofs (disch := omega) [go_sem] <;> omega)) ?_ ?_
      ·intro c51 h; simp (disch := omega) at c51; simp -implicitDefEqProofs (disch := omega) [go_sem]; refine Ac.eqA (args' := [.v (.bool true)]) rfl (GR  rfl ?_); simp -implicitDefEqProofs (disch := omega) [go_sem]; subst hc34; refine A3 fun cb hc43 => ?_; refine vcK ?_; obtain ⟨g44, h⟩ := Af.1 h; obtain ⟨g45, h⟩ := Af.1 h; simp (disch := omega) at g45; simp -implicitDefEqProofs (disch := omega) [go_sem, VB, LM, VC]; subst hc43; refine vcK ?_; simp -implicitDefEqProofs (disch := omega) [go_sem]; refine hc27 _ _ ?_; refine .same ⟨n9, (v8 ++ ([UInt8.ofNat v12.toNat])), ((⟨v14.fs, IntKind.i64.wrap (v14.fat + 1)⟩ : AL)), by exact Au he7, by (simp -implicitDefEqProofs (disch := omega) [go_sem] <;> omega), by with_reducible assumption, by (simp -implicitDefEqProofs (disch := omega) [go_sem] <;> omega), by with_reducible assumption, ?_, ?_, ?_, ?_, ?_, ?_, h⟩ <;> (simp -implicitDefEqProofs (disch := omega) [go_sem, VA] <;> omega)
      intro c51 h; simp (disch := omega) at c51; simp -implicitDefEqProofs (disch := omega) [go_sem, LM]; refine A6 h (by (simp -implicitDefEqProofs (disch := omega) [go_sem] <;> omega)) ?_ ?_
      ·intro c50 h; simp -implicitDefEqProofs (disch := omega) [go_sem, LM]; refine Ac.eqA (args' := [.v (.bool (decide (¬ v12 = 35)))]) (by (simp -implicitDefEqProofs (disch := omega) [go_sem] <;> omega)) ?_; by_cases m46 : ¬ (¬ v12 = 35)
       ·rw [if_neg m46] at h; refine Cd  (by simpa using m46) ?_; simp (disch := omega) at m46; have e7 := Option.some.inj h; subst e7; have e7 := hret7 _ rfl; subst e7; replace h : some ((.error ())) = some r := hk7; have er := Option.some.inj h; subst er; simp -implicitDefEqProofs (disch := omega) [go_sem]; exact Fu (by exact ER he7) ((Dl.refl _).del ka0) (hP _ rfl)
       have m46 := Classical.not_not.1 m46; rw [if_pos m46] at h; refine GR  (by simpa using m46) ?_; simp -implicitDefEqProofs (disch := omega) [go_sem]; subst hc34; refine A3 fun cb hc47 => ?_; refine vcK ?_; obtain ⟨g48, h⟩ := Af.1 h; obtain ⟨g49, h⟩ := Af.1 h; simp (disch := omega) at g49; simp -implicitDefEqProofs (disch := omega) [go_sem, VB, LM, VC]; subst hc47; refine vcK ?_; simp -implicitDefEqProofs (disch := omega) [go_sem]; refine hc27 _ _ ?_; refine .same ⟨n9, (v8 ++ ([UInt8.ofNat v12.toNat])), ((⟨v14.fs, IntKind.i64.wrap (v14.fat + 1)⟩ : AL)), by exact Au he7, by (simp -implicitDefEqProofs (disch := omega) [go_sem] <;> omega), by with_reducible assumption, by (simp -implicitDefEqProofs (disch := omega) [go_sem] <;> omega), by with_reducible assumption, ?_, ?_, ?_, ?_, ?_, ?_, h⟩ <;> (simp -implicitDefEqProofs (disch := omega) [go_sem, VA] <;> omega)
      intro c50 h; simp (disch := omega) at c50; simp -implicitDefEqProofs (disch := omega) [go_sem]; refine Ac.eqA (args' := [.v (.bool false)]) rfl (Cd  rfl ?_); have e7 := Option.some.inj h; subst e7; have e7 := hret7 _ rfl; subst e7; replace h : some ((.error ())) = some r := hk7; have er := Option.some.inj h; subst er; simp -implicitDefEqProofs (disch := omega) [go_sem]; exact Fu (by exact ER he7) ((Dl.refl _).del ka0) (hP _ rfl)
     intro c52 h; simp (disch := omega) at c52; simp -implicitDefEqProofs (disch := omega) [go_sem]; refine Ac.eqA (args' := [.v (.bool false)]) rfl (Cd  rfl ?_); have e7 := Option.some.inj h; subst e7; have e7 := hret7 _ rfl; subst e7; replace h : some ((.error ())) = some r := hk7; have er := Option.some.inj h; subst er; simp -implicitDefEqProofs (disch := omega) [go_sem]; exact Fu (by exact ER he7) ((Dl.refl _).del ka0) (hP _ rfl)
    intro c53 h; simp (disch := omega) at c53; simp -implicitDefEqProofs (disch := omega) [go_sem]; refine Ac.eqA (args' := [.v (.bool false)]) rfl (Cd  rfl ?_); have e7 := Option.some.inj h; subst e7; have e7 := hret7 _ rfl; subst e7; replace h : some ((.error ())) = some r := hk7; have er := Option.some.inj h; subst er; simp -implicitDefEqProofs (disch := omega) [go_sem]; exact Fu (by exact ER he7) ((Dl.refl _).del ka0) (hP _ rfl)
   intro c54 h; simp (disch := omega) at c54; simp -implicitDefEqProofs (disch := omega) [go_sem]; refine Ac.eqA (args' := [.v (.bool false)]) rfl (Cd  rfl ?_); have e7 := Option.some.inj h; subst e7; have e7 := hret7 _ rfl; subst e7; replace h : some ((.error ())) = some r := hk7; have er := Option.some.inj h; subst er; simp -implicitDefEqProofs (disch := omega) [go_sem]; exact Fu (by exact ER he7) ((Dl.refl _).del ka0) (hP _ rfl)
  intro c26 h; simp (disch := omega) at c26; refine vcK ?_; simp -implicitDefEqProofs only [go_sem]; have e7 := Option.some.inj h; subst e7; have hy7 := hret7 _ rfl; refine hc7 _ _ ?_; refine .same ⟨n9, v8, v11, v14, hy7, by exact Au he7, by with_reducible assumption, by with_reducible assumption, by with_reducible assumption, by with_reducible assumption, ?_, ?_, ?_, ?_⟩ <;> first | with_reducible assumption | (simp -implicitDefEqProofs (disch := omega) [go_sem, VB, jv] <;> omega)
 intro c56 h; simp (disch := omega) at c56; simp -implicitDefEqProofs (disch := omega) [go_sem]; subst hc25; refine Ap (by (simp -implicitDefEqProofs (disch := omega) [go_sem] <;> omega)) rfl ?_; refine vcK ?_; simp -implicitDefEqProofs only [go_sem]; have e7 := Option.some.inj h; subst e7; have hy7 := hret7 _ rfl; refine hc7 _ _ ?_; refine .same ⟨n9, v8, v11, v14, hy7, by exact Au he7, by with_reducible assumption, by with_reducible assumption, by with_reducible assumption, by with_reducible assumption, ?_, ?_, ?_, ?_⟩ <;> first | with_reducible assumption | (simp -implicitDefEqProofs (disch := omega) [go_sem, VB, jv] <;> omega)
noncomputable def SZ (a0c : AL) : Option (Except Unit (S89 × AL)) :=
 (Vy a0c).bind fun (x3 : Except Unit ((List UInt8) × AL)) => orP x3 (fun (ex3 : Unit) => some (.error ex3)) (fun (y4 : (List UInt8) × AL) => (QA y4.2).bind fun (x6 : Except Unit ((List UInt8) × AL)) => orP x6 (fun (ex6 : Unit) => some (.error ex6)) (fun (y7 : (List UInt8) × AL) => some ((.ok (((⟨y4.1, y7.1⟩ : S89), y7.2))))))
theorem XY {H : A2} {K : Aw → A2 → Prop} (a0c : AL) (ka0 : Nat) (ka0c : Nat) (Aq : H.obj ka0 = some (.cells ([.p ka0c 0]))) (oka0c : H.obj ka0c = some (.cells ([.v (str a0c.fs), .v (.int .i64 a0c.fat)]))) (Cv : ¬ ka0 = ka0c) {r : Except Unit (S89 × AL)} (h : SZ a0c = some r) (hP : ∀ e, r = .error e → K (.pan (GQ e)) (H.del ka0c)) (hK : ∀ v : S89 × AL, r = .ok v → K (.ret (.ag ([.v (str v.1.fType), .v (str v.1.Aa)]))) (BJ H [(ka0c, .cells ([.v (str v.2.fs), .v (.int .i64 v.2.fat)]))])) : Ac prog 133 [.p ka0 0] H K := by
 refine Ag (N := 9) func133 (by kernel_rfl) rfl (by kernel_rfl) (by kernel_rfl) fun cb hcb hw hbd hnb => ?_; clear hbd hnb; subst hcb; unfold SZ at h; have Db : ka0 < H.next := Nat.lt_of_not_le fun q => by rw [hw _ q] at Aq; cases Aq
 have hka0c : ka0c < H.next := Nat.lt_of_not_le fun q => by rw [hw _ q] at oka0c; cases oka0c
 have HK : ¬ ka0c = ka0 := fun q => Cv q.symm; refine wG ?_; refine A3 fun cb hc2 => ?_; refine vF Aq ?_; obtain ⟨x3, hx3, h⟩ := A4 h; refine XV a0c ka0c (eF oka0c) hx3 ?_ ?_
 ·intro ex3 qx3; subst qx3; replace h := HW h; obtain rfl := sI h; refine sG ?_; exact Fu (by exact ER (Ext.AK (Ext.refl hw) ka0c)) ((Dl.refl _).del ka0c) (hP _ rfl)
 intro y4 qx3; subst qx3; replace h := JZ h; refine sG ?_; subst hc2; refine A3 fun cb hc5 => ?_; refine vF Aq ?_; obtain ⟨x6, hx6, h⟩ := A4 h; refine XX y4.2 ka0c eA hx6 ?_ ?_
 ·intro ex6 qx6; subst qx6; replace h := HW h; obtain rfl := sI h; refine sG ?_; exact Fu (by exact ER (Ext.AK (Ext.refl hw) ka0c)) ((Dl.refl _).del ka0c) (hP _ rfl)
 intro y7 qx6; subst qx6; replace h := JZ h; simp -implicitDefEqProofs (disch := omega) [go_sem, bdP]; subst hc5; obtain rfl := sI h; refine vS ?_; refine As (r' := .ag [.v (str y4.1), .v (str y7.1)]) (io1 ka0c (.cells ([.v (str y7.2.fs), .v (.int .i64 y7.2.fat)])) (by exact Au (Ext.AK (Ext.refl hw) ka0c)) (by omega) (by simp -implicitDefEqProofs (disch := omega) [go_sem]) (by exact Bp)) rfl (.same (by exact nbA)) (hK _ rfl)
noncomputable def NN (v9 : List S89) (v11 : AL) : Option ((List S89) × Int) :=
 some (v9, 0)
noncomputable def ED (a0 : List UInt8) (v6 : List S89) (v8 : AL) : Option (((List S89) × AL) ⊕ (((List S89) × AL) ⊕ ((List S89) × Int))) :=
 if ¬ a0 = [] then ((SZ v8).bind fun (x17 : Except Unit (S89 × AL)) => orP x17 (fun (ex17 : Unit) => some (.inr (.inr ([], 160)))) (fun (y18 : S89 × AL) => gd ((v6.length + ([y18.1]).length) * 32 ≤ 140737488355328) (if (((v6 ++ ([y18.1])).length : Int)) ≤ 16 then ((JF y18.2).bind fun (x24 : Int × Bool) => if ¬ (x24.2 = true) then (some (.inr (.inl ((v6 ++ ([y18.1]), y18.2))))) else (some (.inl ((v6 ++ ([y18.1]), (⟨y18.2.fs, IntKind.i64.wrap (y18.2.fat + 1)⟩ : AL)))))) else (some (.inr (.inr ([], 160))))))) else (some (.inr (.inl (v6, v8))))
noncomputable def F99 (a0 : List UInt8) : Option ((List S89) × Int) :=
 (AE (fun (s : (List S89) × AL) => ED a0 s.1 s.2) ([], (⟨a0, 0⟩ : AL))).bind fun y => Sum.elim (fun (e : (List S89) × AL) => NN e.1 e.2) (fun (q : (List S89) × Int) => some q) y
theorem b_ {H : A2} {K : Aw → A2 → Prop} (a0 : List UInt8) {r : (List S89) × Int} (h : F99 a0 = some r) (hK : K (.ret (.tu [.sl 2 (r.1.map fun x => [.v (str x.fType), .v (str x.Aa)]), .v (.int .i64 r.2)])) H) : Ac prog 99 [.v (str a0)] H K := by
 refine Ql (N := 39) func99 (by kernel_rfl) rfl (by kernel_rfl) (by kernel_rfl) fun cb hcb hw => ?_; subst hcb; unfold F99 at h; refine M3 fun cb hc1 => ?_; refine ID.of ?_; refine vcK ?_; simp -implicitDefEqProofs (disch := omega) [go_sem]; subst hc1; refine M3 fun cb hc2 => ?_; refine Ov (by kernel_rfl) ?_; simp (decide := true) only [NA, SG, Qm]; simp -implicitDefEqProofs (disch := omega) [go_sem]; subst hc2; refine ID.of ?_; refine A3 fun cb hc3 => ?_; refine vcK ?_; simp -implicitDefEqProofs (disch := omega) [go_sem, bdP]; subst hc3; refine A3 fun cb hc4 => ?_; refine vcK ?_; simp -implicitDefEqProofs (disch := omega) [go_sem]; subst hc4; obtain ⟨y5, hl5q, hk5⟩ := A4 h; refine BE (fun tm' H' => ∃ n10 : Nat, ∃ v9 : List S89, ∃ v11 : AL, .inl (v9, v11) = y5 ∧ Ext H H' ∧ H.next + 4 ≤ H'.next ∧ H.next ≤ n10 ∧ n10 < H'.next ∧ ¬ H.next = n10 ∧ ¬ H.next + 1 = n10 ∧ ¬ H.next + 2 = n10 ∧ ¬ H.next + 3 = n10 ∧ tm' 2 = .p H.next 0 ∧ tm' 3 = .p (H.next + 1) 0 ∧ H'.obj H.next = some (.cells ([.os n10 v9.length])) ∧ H'.obj (H.next + 1) = some (.cells ([.v (.int .i64 0)])) ∧ H'.obj (H.next + 2) = some (.cells ([.v (str v11.fs), .v (.int .i64 v11.fat)])) ∧ H'.obj (H.next + 3) = some (.cells ([.p (H.next + 2) 0])) ∧ H'.obj n10 = some (.row 2 (v9.map fun x => [.v (str x.fType), .v (str x.Aa)]))) ?_ fun cb hc5 => ?_
 ·rintro tm5e H5e ⟨n10, v9, v11, rfl, he5e, hl5e, hr0_5e, hs0_5e, hq27, hq28, hq29, hq30, t2_5e, t3_5e, ob0_5e, ob1_5e, ob2_5e, ob3_5e, or0_5e⟩
  have h : NN v9 v11 = some r := hk5; unfold NN at h; refine A3 fun cb hc12 => ?_; refine vcK ?_; simp -implicitDefEqProofs (disch := omega) [go_sem, t2_5e, t3_5e, ob0_5e, ob1_5e]; subst hc12; refine IWp.gh (Gh.YI (k := n10) (kb := H.next) (cs := [.os n10 v9.length]) (cs' := [.sl 2 (v9.map fun x => [.v (str x.fType), .v (str x.Aa)])]) (by simp -implicitDefEqProofs (disch := omega) [go_sem]) (by omega) (JC.cons (FzK.row _ _ _ (by simp -implicitDefEqProofs (disch := omega) [go_sem, or0_5e]) (by simp)) JC.nil)) ?_; refine vcK ?_; simp -implicitDefEqProofs only [go_sem]; have er := Option.some.inj h; subst er; refine XE ?_; refine BK.eqA (args' := [.p H.next 0, .p (H.next + 1) 0]) (by (simp -implicitDefEqProofs (disch := omega) [go_sem]; done)) (Vc ?_); simp -implicitDefEqProofs (disch := omega) [go_sem, t2_5e, t3_5e]; refine Ax (by exact Au he5e) rfl nbA hK
 refine Ak ?_; refine AA (fun (s : (List S89) × AL) tm' H' => ∃ n7 : Nat, Ext H H' ∧ H.next + 4 ≤ H'.next ∧ H.next ≤ n7 ∧ n7 < H'.next ∧ ¬ H.next = n7 ∧ ¬ H.next + 1 = n7 ∧ ¬ H.next + 2 = n7 ∧ ¬ H.next + 3 = n7 ∧ tm' 0 = .v (str a0) ∧ tm' 2 = .p H.next 0 ∧ tm' 3 = .p (H.next + 1) 0 ∧ tm' 4 = .p (H.next + 3) 0 ∧ tm' 5 = .fn (.func 133) [] [.p (H.next + 3) 0] ∧ H'.obj H.next = some (.cells ([.os n7 s.1.length])) ∧ H'.obj (H.next + 1) = some (.cells ([.v (.int .i64 0)])) ∧ H'.obj (H.next + 2) = some (.cells ([.v (str s.2.fs), .v (.int .i64 s.2.fat)])) ∧ H'.obj (H.next + 3) = some (.cells ([.p (H.next + 2) 0])) ∧ H'.obj n7 = some (.row 2 (s.1.map fun x => [.v (str x.fType), .v (str x.Aa)]))) hl5q ?_ ?_
 ·refine UpI.gh (Gh.FP (kb := H.next) (sz := 2) (cs := [.v (.slice none 0 0)]) (cs' := [.os (H.next + 4) 0]) (by omega) (by (simp -implicitDefEqProofs (disch := omega) [go_sem] <;> omega)) (NzL.row NzL.nil)) ?_; refine .same ⟨H.next + 4, by exact Au (Ext.refl hw), by (simp -implicitDefEqProofs (disch := omega) [go_sem] <;> omega), by omega, by (simp -implicitDefEqProofs (disch := omega) [go_sem] <;> omega), by omega, by omega, by omega, by omega, ?_, ?_, ?_, ?_, ?_, ?_, ?_, ?_, ?_, ?_⟩ <;> (simp -implicitDefEqProofs (disch := omega) [go_sem] <;> omega)
 rintro I5 hI5 ⟨v6, v8⟩ x5 tm5 H5 ⟨n7, he5, hl5, oG, oH, hq31, hq32, hq33, hq34, Dg, P5, EP, HT, LJ, OT, Rr, oI, Rs, jA⟩ h hret5
 replace h : ED a0 v6 v8 = some x5 := h; unfold ED at h; refine A3 fun cb hc13 => ?_; refine A3 fun cb hc14 => ?_; refine vcK ?_; simp -implicitDefEqProofs (disch := omega) [go_sem, Dg]; subst hc14; refine Ab h (by (simp -implicitDefEqProofs (disch := omega) [go_sem] <;> omega)) rfl ?_ ?_
 ·intro c15 h; refine vcK ?_; simp -implicitDefEqProofs only [go_sem]; subst hc13; refine Ak ?_; refine A3 fun cb hc16 => ?_; refine LW [] [0, 1, 2, 3, 4, 5] (by kernel_rfl) (by kernel_rfl) (fun _ _ _ _ _ _ ho h => XF (by kernel_rfl) ho h) ?_; simp -implicitDefEqProofs (disch := omega) [go_sem, P5, LJ, OT]; obtain ⟨x17, hx17, h⟩ := A4 h; refine Ac.eqA (args' := [.p (H.next + 3) 0]) rfl (XY v8 (H.next + 3) (H.next + 2) (by assumption) (by assumption) (by omega) hx17 ?_ ?_)
  ·intro ex17 qx17; subst qx17; replace h := HW h; have e5 := Option.some.inj h; subst e5; have e5 := hret5 _ rfl; subst e5; replace h : some ([], 160) = some r := hk5; have er := Option.some.inj h; subst er; simp -implicitDefEqProofs (disch := omega) [go_sem]; refine Rk ?_; refine BK.eqA (args' := [.p H.next 0, .p (H.next + 1) 0]) (by (simp -implicitDefEqProofs (disch := omega) [go_sem]; done)) (OX H.next (H.next + 1) (.os n7 v6.length) (.v (.int .i64 0)) (by simp -implicitDefEqProofs (disch := omega) [go_sem, OT]) (by simp -implicitDefEqProofs (disch := omega) [go_sem, Rr]) (by omega) ?_); simp -implicitDefEqProofs (disch := omega) [go_sem, P5, EP]; refine As (J := H) (r' := _) (Ext.Cy (by exact Au he5)) rfl (.wk _ (.tu [.sl 2 (([] : List S89).map fun x => [.v (str x.fType), .v (str x.Aa)]), .v (.int .i64 160)]) (by repeat (first | exact WkL.nil | refine WkL.cons ?_ ?_ | exact Wk.refl _ | exact Wk.nil _ | refine Wk.tuL ?_)) (by exact nbA)) hK
  intro y18 qx17; subst qx17; replace h := JZ h; obtain ⟨g19, h⟩ := Af.1 h; simp (disch := omega) at g19; simp -implicitDefEqProofs (disch := omega) [go_sem, P5, OT, jA]; subst hc16; refine A3 fun cb hc20 => ?_; refine vcK ?_; simp -implicitDefEqProofs (disch := omega) [go_sem, P5]; refine Ac.eqA (args' := [.v (.bool (decide ((((v6 ++ ([y18.1])).length : Int)) ≤ 16)))]) (by (simp -implicitDefEqProofs (disch := omega) [go_sem] <;> omega)) ?_; by_cases m21 : ¬ ((((v6 ++ ([y18.1])).length : Int)) ≤ 16)
  ·rw [if_neg m21] at h; refine Cd  (by simpa using m21) ?_; simp (disch := omega) at m21; have e5 := Option.some.inj h; subst e5; have e5 := hret5 _ rfl; subst e5; replace h : some ([], 160) = some r := hk5; have er := Option.some.inj h; subst er; simp -implicitDefEqProofs (disch := omega) [go_sem]; refine Rk ?_; refine BK.eqA (args' := [.p H.next 0, .p (H.next + 1) 0]) (by (simp -implicitDefEqProofs (disch := omega) [go_sem]; done)) (OX H.next (H.next + 1) (.os n7 (v6 ++ ([y18.1])).length) (.v (.int .i64 0)) (by simp -implicitDefEqProofs (disch := omega) [go_sem]) (by simp -implicitDefEqProofs (disch := omega) [go_sem, Rr]) (by omega) ?_); simp -implicitDefEqProofs (disch := omega) [go_sem, P5, EP]; refine As (J := H) (r' := _) (Ext.Cy (by exact Au he5)) rfl (.wk _ (.tu [.sl 2 (([] : List S89).map fun x => [.v (str x.fType), .v (str x.Aa)]), .v (.int .i64 160)]) (by repeat (first | exact WkL.nil | refine WkL.cons ?_ ?_ | exact Wk.refl _ | exact Wk.nil _ | refine Wk.tuL ?_)) (by exact nbA)) hK
  have m21 := Classical.not_not.1 m21; rw [if_pos m21] at h; refine GR  (by simpa using m21) ?_; simp (disch := omega) at m21; simp -implicitDefEqProofs (disch := omega) [go_sem]; subst hc20; refine A3 fun cb hc22 => ?_; refine A3 fun cb hc23 => ?_; refine vcK ?_; simp -implicitDefEqProofs (disch := omega) [go_sem, HT, Rs]; obtain ⟨x24, hx24, h⟩ := A4 h; refine Ac.eqA (args' := [.p (H.next + 2) 0]) rfl (DP y18.2 (H.next + 2) (by simp -implicitDefEqProofs (disch := omega) [go_sem]) hx24 ?_); simp -implicitDefEqProofs (disch := omega) [go_sem]; subst hc23; refine A3 fun cb hc25 => ?_; refine vcK ?_; simp -implicitDefEqProofs (disch := omega) [go_sem]; subst hc25; refine Ab h (by (simp -implicitDefEqProofs (disch := omega) [go_sem] <;> omega)) rfl ?_ ?_
  ·intro c26 h; simp (disch := omega) at c26; refine vcK ?_; simp -implicitDefEqProofs only [go_sem]; have e5 := Option.some.inj h; subst e5; have hy5 := hret5 _ rfl; refine hc5 _ _ ?_; refine .same ⟨n7, (v6 ++ ([y18.1])), y18.2, hy5, by exact Au he5, by (simp -implicitDefEqProofs (disch := omega) [go_sem] <;> omega), by with_reducible assumption, by (simp -implicitDefEqProofs (disch := omega) [go_sem] <;> omega), by with_reducible assumption, by with_reducible assumption, by with_reducible assumption, by with_reducible assumption, ?_, ?_, ?_, ?_, ?_, ?_, ?_⟩ <;> (simp -implicitDefEqProofs (disch := omega) [go_sem, P5, EP, Rr, Rs] <;> omega)
  intro c26 h; simp (disch := omega) at c26; refine vcK ?_; simp -implicitDefEqProofs only [go_sem]; subst hc22; refine vcK ?_; simp -implicitDefEqProofs (disch := omega) [go_sem, HT, Rs]; have e5 := Option.some.inj h; subst e5; refine An hI5 ((v6 ++ ([y18.1]), (⟨y18.2.fs, IntKind.i64.wrap (y18.2.fat + 1)⟩ : AL))) ?_; refine .same ⟨n7, by exact Au he5, by (simp -implicitDefEqProofs (disch := omega) [go_sem] <;> omega), by with_reducible assumption, by (simp -implicitDefEqProofs (disch := omega) [go_sem] <;> omega), by with_reducible assumption, by with_reducible assumption, by with_reducible assumption, by with_reducible assumption, ?_, ?_, ?_, ?_, ?_, ?_, ?_, ?_, ?_, ?_⟩ <;> (simp -implicitDefEqProofs (disch := omega) [go_sem, Dg, P5, EP, HT, LJ, Rr, Rs] <;> omega)
 intro c15 h; simp (disch := omega) at c15; refine vcK ?_; simp -implicitDefEqProofs only [go_sem]; have e5 := Option.some.inj h; subst e5; have hy5 := hret5 _ rfl; refine hc5 _ _ ?_; refine .same ⟨n7, v6, v8, hy5, by exact Au he5, by with_reducible assumption, by with_reducible assumption, by with_reducible assumption, by with_reducible assumption, by with_reducible assumption, by with_reducible assumption, by with_reducible assumption, ?_, ?_, ?_, ?_, ?_, ?_, ?_⟩ <;> first | with_reducible assumption | (simp -implicitDefEqProofs (disch := omega) [go_sem, P5, EP] <;> omega)
end Go.Idl
namespace Go.Idl
set_option maxHeartbeats 8000000
set_option pp.deepTerms false
set_option maxRecDepth 60000
open Go Go.Proofs.Tryz
noncomputable def F63 (Ae : List (List UInt8 × S39)) (Ah : List (List UInt8 × (List UInt8))) (Ar : Option S33) (a1 : List UInt8) : Option (Bool × (Option S33)) :=
 (F98 a1 ([10]) 4).bind fun (x3 : (List (List UInt8))) => if (x3.length : Int) < 4 then (some (false, Ar)) else (gd (2 < x3.length) ((F99 (x3.getD 2 [])).bind fun (x10 : (List S89) × Int) => (F60 x10.1).bind fun (x12 : (List UInt8) × Int) => gd (3 < x3.length) ((F66 (x3.getD 3 [])).bind fun (x15 : (List (List (List UInt8))) × Int) => gd (x15.1.length = 8) (if x10.2 = 0 then (if x12.1 = (x3.getD 2 []) then (if x15.2 = 0 then (gd (0 < x3.length) (gd (1 < x3.length) ((F27 Ae Ah Ar (⟨x3.getD 0 [], x3.getD 1 [], x10.1, x15.1⟩ : S33)).bind fun (x20 : Int × (Option S33)) => some ((decide (x20.1 = 0), x20.2))))) else (some (false, Ar))) else (some (false, Ar))) else (some (false, Ar))))))
theorem dc {H : A2} {K : Aw → A2 → Prop} (Ae : List (List UInt8 × S39)) (Ah : List (List UInt8 × (List UInt8))) (Ar : Option S33) (a1 : List UInt8) (ka0 : Nat) (A7 : Nat) (A8 : Nat) (Aq : H.obj ka0 = some (.cells ([.mp A7, .mp A8, AT k33 Ar]))) (Aj : H.obj A7 = some (.map (mE k39g Ae))) (Al : H.obj A8 = some (.map (mE (fun (x : List UInt8) => .v (str x)) Ah))) (hV : VOK prog H) {r : Bool × (Option S33)} (h : F63 Ae Ah Ar a1 = some r) (hK : K (.ret (.v (.bool r.1))) (BJ H [(ka0, .cells ([.mp A7, .mp A8, AT k33 r.2]))])) : Ac prog 63 [.p ka0 0, .v (str a1)] H K := by
 refine Ag (N := 63) func63 (by kernel_rfl) rfl (by kernel_rfl) (by kernel_rfl) fun cb hcb hw hbd hnb => ?_; clear hbd hnb; subst hcb; unfold F63 at h; have Db : ka0 < H.next := Nat.lt_of_not_le fun q => by rw [hw _ q] at Aq; cases Aq
 have Bu : A7 < H.next := Nat.lt_of_not_le fun q => by rw [hw _ q] at Aj; cases Aj
 have Bv : A8 < H.next := Nat.lt_of_not_le fun q => by rw [hw _ q] at Al; cases Al
 have Cv : ¬ ka0 = A7 := fun q => by rw [q] at Aq; rw [Aq] at Aj; cases Aj
 have HK : ¬ A7 = ka0 := fun q => Cv q.symm; have Ec : ¬ ka0 = A8 := fun q => by rw [q] at Aq; rw [Aq] at Al; cases Al
 have Mg : ¬ A8 = ka0 := fun q => Ec q.symm; refine wG ?_; refine A3 fun cb hc2 => ?_; refine vG ?_; obtain ⟨x3, hx3, h⟩ := A4 h; refine bO a1 ([10]) 4 (by exact hV.of rfl) hx3 ?_; refine sG ?_; subst hc2; refine A3 fun cb hc4 => ?_; refine wG ?_; refine Ab h eA rfl ?_ ?_
 ·intro c6 h; refine wG ?_; obtain rfl := sI h; refine vS ?_; refine As (r' := .v (.bool false)) (io1 ka0 (.cells ([.mp A7, .mp A8, AT k33 Ar])) (by exact Au (Ext.AK (Ext.refl hw) ka0)) (by omega) (by with_reducible assumption) (by exact Bp)) rfl (.same (by exact nbA)) hK
 intro c6 h; simp (disch := omega) at c6; refine vO ?_; subst hc4; refine A3 fun cb hc8 => ?_; obtain ⟨g9, h⟩ := Af.1 h; refine vG ?_; obtain ⟨x10, hx10, h⟩ := A4 h; refine Ac.eqA eA (b_ (x3.getD 2 []) hx10 ?_); refine sG ?_; subst hc8; refine A3 fun cb hc11 => ?_; refine vG ?_; obtain ⟨x12, hx12, h⟩ := A4 h; refine Qd x10.1 hx12 ?_; refine sG ?_; subst hc11; refine A3 fun cb hc13 => ?_; obtain ⟨g14, h⟩ := Af.1 h; refine vG ?_; obtain ⟨x15, hx15, h⟩ := A4 h; refine Ac.eqA eA (Vx (x3.getD 3 []) (by exact hV.of rfl) hx15 ?_); obtain ⟨g16, h⟩ := Af.1 h; refine sF g16 ?_; subst hc13; refine A3 fun cb hc17 => ?_; refine Ay [] [0, 1, 2, 3, 4, 5, 6, 7, 8, 9, 10, 11, 12, 13, 14, 15, 16, 17, 18, 19, 20, 21, 22, 23, 24, 25, 26, 27] (by kernel_rfl) (by kernel_rfl) (fun _ _ _ _ h => h) ?_; refine sG ?_; refine A6 h rfl ?_ ?_
 ·intro c23 h; refine sG ?_; refine A6 h eA ?_ ?_
  ·intro c22 h; simp (disch := omega) at c22; refine sG ?_; refine A6 h rfl ?_ ?_
   ·intro c21 h; obtain ⟨g18, h⟩ := Af.1 h; obtain ⟨g19, h⟩ := Af.1 h; simp -implicitDefEqProofs (disch := omega) [go_sem, bdP, g16]; obtain ⟨x20, hx20, h⟩ := A4 h; refine Ac.eqA (args' := [.p ka0 0, .ag (.v (str (x3.getD 0 [])) :: .v (str (x3.getD 1 [])) :: .sl 2 (x10.1.map fun x => [.v (str x.fType), .v (str x.Aa)]) :: (x15.1.map fun x => .sl 1 (x.map fun x => [.v (str x)])))]) eA (Ac.wkL (args' := [.p ka0 0, .ag (.v (str ((⟨x3.getD 0 [], x3.getD 1 [], x10.1, x15.1⟩ : S33).Ad)) :: .v (str ((⟨x3.getD 0 [], x3.getD 1 [], x10.1, x15.1⟩ : S33).Am)) :: .sl 2 (((⟨x3.getD 0 [], x3.getD 1 [], x10.1, x15.1⟩ : S33).fDn).map fun x => [.v (str x.fType), .v (str x.Aa)]) :: (((⟨x3.getD 0 [], x3.getD 1 [], x10.1, x15.1⟩ : S33).A5).map fun x => .sl 1 (x.map fun x => [.v (str x)])))]) (by repeat (first | exact WkL.nil | refine WkL.cons ?_ ?_ | exact Wk.refl _)) (UI Ae Ah Ar (⟨x3.getD 0 [], x3.getD 1 [], x10.1, x15.1⟩ : S33) ka0 A7 A8 (eF Aq) (eF Aj) (eF Al) hx20 ?_)); refine sF g16 ?_; subst hc17; obtain rfl := sI h; refine vS ?_; refine As (r' := .v (.bool (decide (x20.1 = 0)))) (io1 ka0 (.cells ([.mp A7, .mp A8, AT k33 x20.2])) (by exact Au (Ext.AK (Ext.refl hw) ka0)) (by omega) (by simp -implicitDefEqProofs (disch := omega) [go_sem]) (by exact Bp)) rfl (.same (by exact nbA)) hK
   intro c21 h; refine sG ?_; subst hc17; obtain rfl := sI h; refine vS ?_; refine As (r' := .v (.bool false)) (io1 ka0 (.cells ([.mp A7, .mp A8, AT k33 Ar])) (by exact Au (Ext.AK (Ext.refl hw) ka0)) (by omega) (by simp -implicitDefEqProofs (disch := omega) [go_sem, Aq]) (by exact Bp)) rfl (.same (by exact nbA)) hK
  intro c22 h; simp (disch := omega) at c22; refine sG ?_; subst hc17; obtain rfl := sI h; refine vS ?_; refine As (r' := .v (.bool false)) (io1 ka0 (.cells ([.mp A7, .mp A8, AT k33 Ar])) (by exact Au (Ext.AK (Ext.refl hw) ka0)) (by omega) (by simp -implicitDefEqProofs (disch := omega) [go_sem, Aq]) (by exact Bp)) rfl (.same (by exact nbA)) hK
 intro c23 h; refine sG ?_; subst hc17; obtain rfl := sI h; refine vS ?_; refine As (r' := .v (.bool false)) (io1 ka0 (.cells ([.mp A7, .mp A8, AT k33 Ar])) (by exact Au (Ext.AK (Ext.refl hw) ka0)) (by omega) (by simp -implicitDefEqProofs (disch := omega) [go_sem, Aq]) (by exact Bp)) rfl (.same (by exact nbA)) hK
noncomputable def NO (v11 : Option S33) (v12 : List (List UInt8 × S39)) (v13 : List (List UInt8 × (List UInt8))) : Option ((Option ((List (List UInt8 × S39)) × (List (List UInt8 × (List UInt8))) × (Option S33))) × Int) :=
 some (some (v12, v13, v11), 0)
noncomputable def DS (a0 : List S78) (v7 : Int) (v8 : Option S33) (v9 : List (List UInt8 × S39)) (v10 : List (List UInt8 × (List UInt8))) : Option ((Int × (Option S33) × (List (List UInt8 × S39)) × (List (List UInt8 × (List UInt8)))) ⊕ (((Option S33) × (List (List UInt8 × S39)) × (List (List UInt8 × (List UInt8)))) ⊕ ((Option ((List (List UInt8 × S39)) × (List (List UInt8 × (List UInt8))) × (Option S33))) × Int))) :=
 (F64 ((a0.getD v7.toNat S78.zero).Bb) ([112])).bind fun (x23 : (List UInt8) × Bool) => (F65 ((a0.getD v7.toNat S78.zero).Aa) ([10])).bind fun (x25 : (List UInt8) × (List UInt8) × Bool) => (F66 x25.2.1).bind fun (x27 : (List (List (List UInt8))) × Int) => gd (x27.1.length = 8) (if ¬ (x23.2 = true) then (some (.inr (.inr (none, 301)))) else (if ¬ (x25.2.2 = true) then (some (.inr (.inr (none, 301)))) else (if ¬ x27.2 = 0 then (some (.inr (.inr (none, 301)))) else ((F29 v9 v10 v8 (⟨x23.1, x25.1, x27.1⟩ : S39)).bind fun (x33 : Int × (List (List UInt8 × S39)) × (List (List UInt8 × (List UInt8)))) => if ¬ x33.1 = 0 then (some (.inr (.inr (none, 301)))) else (some (.inl ((IntKind.i64.wrap (v7 + 1), v8, x33.2.1, x33.2.2))))))))
noncomputable def GZ (a0 : List S78) (v7 : Int) (v8 : Option S33) (v9 : List (List UInt8 × S39)) (v10 : List (List UInt8 × (List UInt8))) : Option ((Int × (Option S33) × (List (List UInt8 × S39)) × (List (List UInt8 × (List UInt8)))) ⊕ (((Option S33) × (List (List UInt8 × S39)) × (List (List UInt8 × (List UInt8)))) ⊕ ((Option ((List (List UInt8 × S39)) × (List (List UInt8 × (List UInt8))) × (Option S33))) × Int))) :=
 if v7 < (a0.length : Int) then (gd (0 ≤ v7 ∧ v7 < a0.length) (if ((a0.getD v7.toNat S78.zero).Bb) = ([105]) then (if v8.isNone = true then ((F63 v9 v10 v8 ((a0.getD v7.toNat S78.zero).Aa)).bind fun (x43 : Bool × (Option S33)) => if ¬ (x43.1 = true) then (some (.inr (.inr (none, 301)))) else (some (.inl ((IntKind.i64.wrap (v7 + 1), x43.2, v9, v10))))) else (DS a0 v7 v8 v9 v10)) else (DS a0 v7 v8 v9 v10))) else (some (.inr (.inl (v8, v9, v10))))
noncomputable def F35 (a0 : List S78) : Option ((Option ((List (List UInt8 × S39)) × (List (List UInt8 × (List UInt8))) × (Option S33))) × Int) :=
 (F12 ).bind fun (x3 : (List (List UInt8 × S39)) × (List (List UInt8 × (List UInt8))) × (Option S33)) => (AE (fun (s : Int × (Option S33) × (List (List UInt8 × S39)) × (List (List UInt8 × (List UInt8)))) => GZ a0 s.1 s.2.1 s.2.2.1 s.2.2.2) (0, x3.2.2, x3.1, x3.2.1)).bind fun y => Sum.elim (fun (e : (Option S33) × (List (List UInt8 × S39)) × (List (List UInt8 × (List UInt8)))) => NO e.1 e.2.1 e.2.2) (fun (q : (Option ((List (List UInt8 × S39)) × (List (List UInt8 × (List UInt8))) × (Option S33))) × Int) => some q) y
theorem dh {H : A2} {K : Aw → A2 → Prop} (a0 : List S78) (hV : VOK prog H) {r : (Option ((List (List UInt8 × S39)) × (List (List UInt8 × (List UInt8))) × (Option S33))) × Int} (h : F35 a0 = some r) (hN : r.1 = none → K (.ret (.tu [.v (.pointer none), .v (.int .i64 r.2)])) H) (hS : ∀ v, r.1 = some v → K (.ret (.tu [.p H.next 0, .v (.int .i64 r.2)])) (newL H [.cells ([.mp (H.next + 1), .mp (H.next + 2), AT k33 v.2.2]), .map (mE k39g v.1), .map (mE (fun (x : List UInt8) => .v (str x)) v.2.1)])) : Ac prog 35 [.sl 2 (a0.map fun x => [.v (str x.Bb), .v (str x.Aa)])] H K := by
 refine Ag (N := 75) func35 (by kernel_rfl) rfl (by kernel_rfl) (by kernel_rfl) fun cb hcb hw hbd hnb => ?_; clear hbd hnb; subst hcb; unfold F35 at h; refine wG ?_; refine A3 fun cb hc2 => ?_; refine vG ?_; obtain ⟨x3, hx3, h⟩ := A4 h; refine Q5  hx3 ?_; refine sG ?_; subst hc2; refine A3 fun cb hc4 => ?_; refine wG ?_; obtain ⟨y6, hl6q, hk6⟩ := A4 h; refine Az (fun tm' H' => ∃ v11 : Option S33, ∃ v12 : List (List UInt8 × S39), ∃ v13 : List (List UInt8 × (List UInt8)), .inl (v11, v12, v13) = y6 ∧ Ext H H' ∧ H.next + 3 ≤ H'.next ∧ tm' 4 = .p H.next 0 ∧ H'.obj H.next = some (.cells ([.mp (H.next + 1), .mp (H.next + 2), AT k33 v11])) ∧ H'.obj (H.next + 1) = some (.map (mE k39g v12)) ∧ H'.obj (H.next + 2) = some (.map (mE (fun (x : List UInt8) => .v (str x)) v13))) ?_ fun cb hc6 => ?_
 ·rintro tm6e H6e ⟨v11, v12, v13, rfl, he6e, hl6e, t4_6e, ob0_6e, ob1_6e, ob2_6e⟩
  have h : NO v11 v12 v13 = some r := hk6; unfold NO at h; simp -implicitDefEqProofs only [go_sem]; subst hc4; refine wF t4_6e ?_; obtain rfl := sI h; refine vS ?_; refine N7 (r := .tu [.p H.next 0, .v (.int .i64 0)]) (r' := .tu [.p H.next 0, .v (.int .i64 0)]) rfl (HE (Au he6e) (ks := [H.next, H.next + 1, H.next + 2]) (os := [.cells ([.mp (H.next + 1), .mp (H.next + 2), AT k33 v11]), .map (mE k39g v12), .map (mE (fun (x : List UInt8) => .v (str x)) v13)]) (.cons (o := .cells ([.mp (H.next + 1), .mp (H.next + 2), AT k33 v11])) (by omega) (by omega) (eF ob0_6e) (.cells _ _ (.cons (.mpE (k := H.next + 1) (by simp [DA]) (by simp [go_sem])) (.cons (.mpE (k := H.next + 2) (by simp [DA]) (by simp [go_sem])) (.cons (.same _ (by exact nbA)) .nil)))) (.cons (o := .map (mE k39g v12)) (by omega) (by omega) (eF ob1_6e) (.same _ (by exact C5)) (.cons (o := .map (mE (fun (x : List UInt8) => .v (str x)) v13)) (by omega) (by omega) (eF ob2_6e) (.same _ (by exact C5)) .nil))) (by simp [List.nodup_cons] <;> omega)) (.tuL (.cons (.pE (k := H.next) (by simp [DA]) (by simp [go_sem])) (.cons (.same _ (by exact nbA)) .nil))) (hS _ rfl)
 refine Ak ?_; refine AA (fun (s : Int × (Option S33) × (List (List UInt8 × S39)) × (List (List UInt8 × (List UInt8)))) tm' H' => Ext H H' ∧ H.next + 3 ≤ H'.next ∧ tm' 4 = .p H.next 0 ∧ tm' 15 = .sl 2 (a0.map fun x => [.v (str x.Bb), .v (str x.Aa)]) ∧ tm' 16 = .v (.int .i64 (a0.length : Int)) ∧ tm' 17 = .v (.int .i64 s.1) ∧ H'.obj H.next = some (.cells ([.mp (H.next + 1), .mp (H.next + 2), AT k33 s.2.1])) ∧ H'.obj (H.next + 1) = some (.map (mE k39g s.2.2.1)) ∧ H'.obj (H.next + 2) = some (.map (mE (fun (x : List UInt8) => .v (str x)) s.2.2.2))) hl6q ?_ ?_
 ·refine .same ⟨by exact Au (Ext.refl hw), by (simp -implicitDefEqProofs (disch := omega) [go_sem] <;> omega), ?_, ?_, ?_, ?_, ?_, ?_, ?_⟩ <;> (simp -implicitDefEqProofs (disch := omega) [go_sem] <;> omega)
 rintro I6 hI6 ⟨v7, v8, v9, v10⟩ x6 tm6 H6 ⟨he6, hl6, GY, Rt, Ru, P6, EL, Rv, Rw⟩ h hret6
 replace h : GZ a0 v7 v8 v9 v10 = some x6 := h; unfold GZ at h; refine wF (nd Ru P6) ?_; refine A3 fun cb hc16 => ?_; refine Ab h eA rfl ?_ ?_
 ·intro c17 h; refine vO ?_; subst hc16; refine A3 fun cb hc18 => ?_; refine Ak ?_; obtain ⟨g20, h⟩ := Af.1 h; refine wF (nd Rt P6) ?_; refine BE (fun tm' H' => Ext H H' ∧ H6.next + 1 ≤ H'.next ∧ tm' 4 = .p H.next 0 ∧ tm' 6 = .p H6.next 0 ∧ tm' 15 = .sl 2 (a0.map fun x => [.v (str x.Bb), .v (str x.Aa)]) ∧ tm' 16 = .v (.int .i64 (a0.length : Int)) ∧ tm' 17 = .v (.int .i64 v7) ∧ H'.obj H.next = some (.cells ([.mp (H.next + 1), .mp (H.next + 2), AT k33 v8])) ∧ H'.obj (H.next + 1) = some (.map (mE k39g v9)) ∧ H'.obj (H.next + 2) = some (.map (mE (fun (x : List UInt8) => .v (str x)) v10)) ∧ H'.obj H6.next = some (.cells ([.v (str ((a0.getD v7.toNat S78.zero).Bb)), .v (str ((a0.getD v7.toNat S78.zero).Aa))])) ∧ DS a0 v7 v8 v9 v10 = some x6) ?_ fun cb hc21 => ?_
  ·rintro tm21 H21 ⟨he21, hl21, Ra, Rb, dm, dr, dw, Nl, dx, dy, VD, h⟩
   unfold DS at h; refine A3 fun cb hc22 => ?_; refine vF (nd Rb VD) ?_; obtain ⟨x23, hx23, h⟩ := A4 h; refine Ac.eqA eA (Uy ((a0.getD v7.toNat S78.zero).Bb) ([112]) hx23 ?_); refine sG ?_; subst hc22; refine A3 fun cb hc24 => ?_; refine vF (nd Rb VD) ?_; obtain ⟨x25, hx25, h⟩ := A4 h; refine Ac.eqA eA (Vd ((a0.getD v7.toNat S78.zero).Aa) ([10]) (by exact hV.of (he21).sn) hx25 ?_); refine sG ?_; subst hc24; refine A3 fun cb hc26 => ?_; refine vG ?_; obtain ⟨x27, hx27, h⟩ := A4 h; refine Vx x25.2.1 (by exact hV.of (he21).sn) hx27 ?_; obtain ⟨g28, h⟩ := Af.1 h; refine sF g28 ?_; subst hc26; refine A3 fun cb hc29 => ?_; refine vG ?_; refine A6 h eA ?_ ?_
   ·intro c38 h; simp (disch := omega) at c38; refine sG ?_; subst hc29; refine Ao eA rfl ?_; refine wG ?_; refine vO ?_; obtain rfl := sI h; obtain rfl := hret6 _ rfl; replace h : some (none, 301) = some r := hk6; obtain rfl := sI h; refine sG ?_; refine Ax (Au he21) rfl nbA (hN rfl)
   intro c38 h; simp (disch := omega) at c38; refine sG ?_; refine A6 h eA ?_ ?_
   ·intro c37 h; simp (disch := omega) at c37; refine sG ?_; subst hc29; refine Ao eA rfl ?_; refine wG ?_; refine vO ?_; obtain rfl := sI h; obtain rfl := hret6 _ rfl; replace h : some (none, 301) = some r := hk6; obtain rfl := sI h; refine sG ?_; refine Ax (Au he21) rfl nbA (hN rfl)
   intro c37 h; simp (disch := omega) at c37; refine sG ?_; refine A6 h eA ?_ ?_
   ·intro c36 h; refine sG ?_; subst hc29; refine Ao eA rfl ?_; refine wG ?_; refine vO ?_; obtain rfl := sI h; obtain rfl := hret6 _ rfl; replace h : some (none, 301) = some r := hk6; obtain rfl := sI h; refine sG ?_; refine Ax (Au he21) rfl nbA (hN rfl)
   intro c36 h; simp (disch := omega) at c36; simp -implicitDefEqProofs (disch := omega) [go_sem, bdP, Ra, g28]; obtain ⟨x33, hx33, h⟩ := A4 h; refine Ac.wkL (args' := [.p H.next 0, .ag (.v (str ((⟨x23.1, x25.1, x27.1⟩ : S39).Ad)) :: .v (str ((⟨x23.1, x25.1, x27.1⟩ : S39).Am)) :: (((⟨x23.1, x25.1, x27.1⟩ : S39).A5).map fun x => .sl 1 (x.map fun x => [.v (str x)])))]) (by repeat (first | exact WkL.nil | refine WkL.cons ?_ ?_ | exact Wk.refl _)) (Ng v9 v10 v8 (⟨x23.1, x25.1, x27.1⟩ : S39) H.next (H.next + 1) (H.next + 2) (eF Nl) (eF dx) (eF dy) (by omega) hx33 ?_); refine sG ?_; subst hc29; refine Ab h eA rfl ?_ ?_
   ·intro c34 h; refine wG ?_; refine vO ?_; obtain rfl := sI h; obtain rfl := hret6 _ rfl; replace h : some (none, 301) = some r := hk6; obtain rfl := sI h; refine sG ?_; refine Ax (Au he21) rfl nbA (hN rfl)
   intro c34 h; simp (disch := omega) at c34; refine vO ?_; subst hc18; refine vF dw ?_; obtain rfl := sI h; refine An hI6 ((IntKind.i64.wrap (v7 + 1), v8, x33.2.1, x33.2.2)) ?_; refine .same ⟨by exact Au he21, by (simp -implicitDefEqProofs (disch := omega) [go_sem] <;> omega), ?_, ?_, ?_, ?_, ?_, ?_, ?_⟩ <;> (simp -implicitDefEqProofs (disch := omega) [go_sem, Ra, dm, dr, Nl] <;> omega)
  refine A3 fun cb hc39 => ?_; refine vG ?_; refine A6 h eA ?_ ?_
  ·intro c46 h; simp (disch := omega) at c46; refine sF (nd GY EL) ?_; subst hc39; refine Ab h eA rfl ?_ ?_
   ·intro c40 h; simp (disch := omega) at c40; refine A3 fun cb hc41 => ?_; refine A3 fun cb hc42 => ?_; refine vF GY ?_; obtain ⟨x43, hx43, h⟩ := A4 h; refine Ac.eqA eA (dc v9 v10 v8 ((a0.getD v7.toNat S78.zero).Aa) H.next (H.next + 1) (H.next + 2) (eF EL) (eF Rv) (eF Rw) (by exact hV.of (he6).sn) hx43 ?_); refine sG ?_; subst hc42; refine Ab h eA rfl ?_ ?_
    ·intro c44 h; simp (disch := omega) at c44; refine wG ?_; refine vO ?_; obtain rfl := sI h; obtain rfl := hret6 _ rfl; replace h : some (none, 301) = some r := hk6; obtain rfl := sI h; refine sG ?_; refine Ax (Au he6) rfl nbA (hN rfl)
    intro c44 h; simp (disch := omega) at c44; refine vO ?_; subst hc41; refine vO ?_; subst hc18; refine vF P6 ?_; obtain rfl := sI h; refine An hI6 ((IntKind.i64.wrap (v7 + 1), x43.2, v9, v10)) ?_; refine .same ⟨by exact Au he6, by (simp -implicitDefEqProofs (disch := omega) [go_sem] <;> omega), ?_, ?_, ?_, ?_, ?_, ?_, ?_⟩ <;> (simp -implicitDefEqProofs (disch := omega) [go_sem, GY, Rt, Ru, Rv, Rw] <;> omega)
   intro c40 h; simp (disch := omega) at c40; refine vO ?_; refine hc21 _ _ ?_; refine .same ⟨by exact Au he6, by (simp -implicitDefEqProofs (disch := omega) [go_sem] <;> omega), ?_, ?_, ?_, ?_, ?_, ?_, ?_, ?_, ?_, h⟩ <;> (simp -implicitDefEqProofs (disch := omega) [go_sem, GY, Rt, Ru, P6, EL, Rv, Rw] <;> omega)
  intro c46 h; simp (disch := omega) at c46; refine sG ?_; subst hc39; refine Ap eA rfl ?_; refine vO ?_; refine hc21 _ _ ?_; refine .same ⟨by exact Au he6, by (simp -implicitDefEqProofs (disch := omega) [go_sem] <;> omega), ?_, ?_, ?_, ?_, ?_, ?_, ?_, ?_, ?_, h⟩ <;> (simp -implicitDefEqProofs (disch := omega) [go_sem, GY, Rt, Ru, P6, EL, Rv, Rw] <;> omega)
 intro c17 h; simp (disch := omega) at c17; refine vO ?_; obtain rfl := sI h; have hy6 := hret6 _ rfl; refine hc6 _ _ ?_; refine .same ⟨v8, v9, v10, hy6, by exact Au he6, by with_reducible assumption, ?_, ?_, ?_, ?_⟩ <;> first | with_reducible assumption | (simp -implicitDefEqProofs (disch := omega) [go_sem, GY] <;> omega)
noncomputable def K3 (a0 : List UInt8) (v5 : Int) : Option (Int ⊕ (Unit ⊕ ((List UInt8) × (List UInt8) × Bool))) :=
 if v5 < (a0.length : Int) then (gd (0 ≤ v5 ∧ v5 < a0.length) (if (((a0.getD v5.toNat 0).toNat : Int)) = 10 then (gd (0 ≤ v5) (gd (v5 ≤ a0.length) (gd (0 ≤ (IntKind.i64.wrap (v5 + 1))) (gd (IntKind.i64.wrap (v5 + 1) ≤ a0.length) (some (.inr (.inr (((a0.take v5.toNat), a0.drop (IntKind.i64.wrap (v5 + 1)).toNat, true))))))))) else (some (.inl (IntKind.i64.wrap (v5 + 1)))))) else (some (.inr (.inl ())))
noncomputable def VE (a0 : Int) : Option Bool :=
 if a0 = 44 then (some true) else (if a0 = 43 then (some true) else (if a0 = 34 then (some true) else (if a0 = 92 then (some true) else (if a0 = 60 then (some true) else (if a0 = 62 then (some true) else (if a0 = 59 then (some true) else (some (decide (a0 = 61)))))))))
theorem XZ {H : A2} {K : Aw → A2 → Prop} (a0 : Int) {r : Bool} (h : VE a0 = some r) (hK : K (.ret (.v (.bool r))) H) : Ac prog 144 [.v (.int .u8 a0)] H K := by
 refine Ag (N := 33) func144 (by kernel_rfl) rfl (by kernel_rfl) (by kernel_rfl) fun cb hcb hw hbd hnb => ?_; clear hbd hnb; subst hcb; unfold VE at h; refine wG ?_; refine A3 fun cb hc2 => ?_; refine vG ?_; refine A6 h rfl ?_ ?_
 ·intro c9 h; refine sG ?_; subst hc2; obtain rfl := sI h; refine vS ?_; exact Av (.refl hw) hK
 intro c9 h; refine sG ?_; refine A6 h rfl ?_ ?_
 ·intro c8 h; refine sG ?_; subst hc2; obtain rfl := sI h; refine vS ?_; exact Av (.refl hw) hK
 intro c8 h; refine sG ?_; refine A6 h rfl ?_ ?_
 ·intro c7 h; refine sG ?_; subst hc2; obtain rfl := sI h; refine vS ?_; exact Av (.refl hw) hK
 intro c7 h; refine sG ?_; refine A6 h rfl ?_ ?_
 ·intro c6 h; refine sG ?_; subst hc2; obtain rfl := sI h; refine vS ?_; exact Av (.refl hw) hK
 intro c6 h; refine sG ?_; refine A6 h rfl ?_ ?_
 ·intro c5 h; refine sG ?_; subst hc2; obtain rfl := sI h; refine vS ?_; exact Av (.refl hw) hK
 intro c5 h; refine sG ?_; refine A6 h rfl ?_ ?_
 ·intro c4 h; refine sG ?_; subst hc2; obtain rfl := sI h; refine vS ?_; exact Av (.refl hw) hK
 intro c4 h; refine sG ?_; refine A6 h rfl ?_ ?_
 ·intro c3 h; refine sG ?_; subst hc2; obtain rfl := sI h; refine vS ?_; exact Av (.refl hw) hK
 intro c3 h; refine sG ?_; subst hc2; obtain rfl := sI h; refine vS ?_; exact Av (.refl hw) hK
end Go.Idl
namespace Go.Idl
set_option maxHeartbeats 8000000
set_option pp.deepTerms false
set_option maxRecDepth 60000
open Go Go.Proofs.Tryz
noncomputable def S_ (a0 : Int) : Option (List UInt8) :=
 gd (0 ≤ (IntKind.u8.wrap (a0.tdiv 16))) (gd (IntKind.u8.wrap (a0.tdiv 16) ≤ IntKind.u8.wrap ((IntKind.u8.wrap (a0.tdiv 16)) + 1)) (gd (IntKind.u8.wrap ((IntKind.u8.wrap (a0.tdiv 16)) + 1) ≤ (([48, 49, 50, 51, 52, 53, 54, 55, 56, 57, 97, 98, 99, 100, 101, 102]) : List UInt8).length) (gd (0 ≤ (a0.tmod 16)) (gd (a0.tmod 16 ≤ IntKind.u8.wrap ((a0.tmod 16) + 1)) (gd (IntKind.u8.wrap ((a0.tmod 16) + 1) ≤ (([48, 49, 50, 51, 52, 53, 54, 55, 56, 57, 97, 98, 99, 100, 101, 102]) : List UInt8).length) (gd ((((([48, 49, 50, 51, 52, 53, 54, 55, 56, 57, 97, 98, 99, 100, 101, 102]).take (IntKind.u8.wrap ((IntKind.u8.wrap (a0.tdiv 16)) + 1)).toNat).drop (IntKind.u8.wrap (a0.tdiv 16)).toNat).length : Int) + ((([48, 49, 50, 51, 52, 53, 54, 55, 56, 57, 97, 98, 99, 100, 101, 102]).take (IntKind.u8.wrap ((a0.tmod 16) + 1)).toNat).drop (a0.tmod 16).toNat).length ≤ 9223372036854775807) (some (((([48, 49, 50, 51, 52, 53, 54, 55, 56, 57, 97, 98, 99, 100, 101, 102]).take (IntKind.u8.wrap ((IntKind.u8.wrap (a0.tdiv 16)) + 1)).toNat).drop (IntKind.u8.wrap (a0.tdiv 16)).toNat) ++ ((([48, 49, 50, 51, 52, 53, 54, 55, 56, 57, 97, 98, 99, 100, 101, 102]).take (IntKind.u8.wrap ((a0.tmod 16) + 1)).toNat).drop (a0.tmod 16).toNat)))))))))
theorem Rx {H : A2} {K : Aw → A2 → Prop} (a0 : Int) {r : (List UInt8)} (h : S_ a0 = some r) (hK : K (.ret (.v (str r))) H) : Ac prog 143 [.v (.int .u8 a0)] H K := by
 refine Ag (N := 16) func143 (by kernel_rfl) rfl (by kernel_rfl) (by kernel_rfl) fun cb hcb hw hbd hnb => ?_; clear hbd hnb; subst hcb; unfold S_ at h; refine wG ?_; refine A3 fun cb hc2 => ?_; refine Ay [] [0, 1, 2, 3, 4, 5, 6, 7, 8, 9, 10, 11, 12, 13] (by kernel_rfl) (by kernel_rfl) (fun _ _ _ _ h => h) ?_; obtain ⟨g3, h⟩ := Af.1 h; obtain ⟨g4, h⟩ := Af.1 h; obtain ⟨g5, h⟩ := gS h; obtain ⟨g6, h⟩ := Af.1 h; obtain ⟨g7, h⟩ := Af.1 h; have g7o := g7; obtain ⟨g8, h⟩ := gS h; obtain ⟨g9, h⟩ := gS h; simp -implicitDefEqProofs (disch := omega) [go_sem] at g3; simp -implicitDefEqProofs (disch := omega) [go_sem] at g7; simp -implicitDefEqProofs (disch := omega) [go_sem] at g8; simp -implicitDefEqProofs (disch := omega) [go_sem] at g9; refine sG ?_; subst hc2; obtain rfl := sI h; refine vS ?_; exact Av (.refl hw) hK
end Go.Idl
