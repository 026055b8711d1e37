/- The request, the reply of any bytes, or that they are of none: the saying of the case law 12 Part 3. Conditions: none. -/
import Derived.Test.YtdgfbojdppohnaaGreatDoorPartB
import Derived.OrdersIn
import Derived.IntWalk
import Derived.RangeFuncRecord
import Derived.Maps.RangeRun
import Derived.RecoverIn
set_option linter.unusedSimpArgs false
set_option linter.unusedVariables false
namespace Go.Idl
open Go Go.RowKit
variable {P : Program} {N : Nat} {tm : Tm} {H : A3}
def rdI (P : Program) (H : A3) (tm : Tm) (op : Op) : Option (Prop × IV) :=
  match op with
  | .load t x => ldX P H t (ev tm x)
  | .indexAddr t x i => ixX P H t (ev tm x) (ev tm i)
  | .lookup t x i k => lkX P H t (ev tm x) (ev tm i) k
  | .buildSlice t n ps =>
    match bsI P t n (ps.toList.map fun q => (q.1, ev tm q.2)) with
    | some (sz, rs) => some (True, .sl sz (chunks sz n rs))
    | none => none
  | op => evP P tm op
def xI (P : Program) (H : A3) (tm : Tm) (op : Op) (K : IV → A3 → Prop) (Qp : List PanicEntry → A3 → Prop) : Prop :=
  match op with
  | .call { callee := .value x, args, .. } => E2 (fnP (ev tm x)) (Ma P (args.toList.map (ev tm)) H K Qp) False
  | .call { callee := .builtin .append, args, argTypes, .. } =>
    match args.toList, argTypes.toList with
    | [x, y], [t, t'] => AJ (apI P H t t' (ev tm x) (ev tm y)) K False
    | _, _ => False
  | .alloc t => AJ (alX P H t) K False
  | .box _ x => AJ (bxX H (ev tm x)) K False
  | .store t x y => AJ (stX P H t (ev tm x) (ev tm y)) K False
  | .mapUpdate t x i y => AJ (muX P H t (ev tm x) (ev tm i) (ev tm y)) K False
  | _ => False
def isX (op : Op) : Bool :=
  match op with
  | .call c => match c.callee with | .builtin .len => false | _ => true
  | .alloc _ => true
  | .box _ _ => true
  | .store _ _ _ => true
  | .mapUpdate _ _ _ _ => true
  | _ => false
def OK (op : Op) : Bool :=
  match op with
  | .load _ _ => true
  | .indexAddr _ _ _ => true
  | .lookup _ _ _ _ => true
  | _ => false
def vcS (P : Program) (o : Oper) (tm : Tm) (H : A3) (K : IV → A3 → Prop) (Qp : List PanicEntry → A3 → Prop) : Prop :=
  match isX o.op with
  | true => xI P H tm o.op K Qp
  | false => AJ (AZ (rdI P H tm o.op) H) K False
theorem OL {o : Oper} {K : IV → A3 → Prop} {Qp : List PanicEntry → A3 → Prop} (hok : okO N o = true) (h : vcS P o tm H K Qp) : Av P N o tm H K Qp := by
 unfold vcS at h; split at h
 ·unfold xI at h; split at h
  ·rename_i x args ats ho; unfold E2 at h; split at h
   ·rename_i f cap hf; exact Jz ho hok hf h
   ·exact h.elim
  ·rename_i args ats ho; split at h
   ·rename_i x y t t' h1 h2; unfold AJ at h; split at h
    ·rename_i s r H' he; have e1 : args = #[x, y] := Array.toList_inj.1 h1; have e2 : ats = #[t, t'] := Array.toList_inj.1 h2; subst e1; subst e2; exact Hp ho hok he h.1 h.2
    ·exact h.elim
   ·exact h.elim
  all_goals first
   | exact h.elim
   | (rename_i ho
      unfold AJ at h
      split at h
      · rename_i s r H' he
        exact Ib hok (by rw [ho]; exact he) h.1 h.2
      · exact h.elim)
 ·unfold AJ AZ at h; split at h
  ·rename_i s r H' he; split at he
   ·rename_i s' r' he'; simp only [Option.some.injEq, Prod.mk.injEq] at he; obtain ⟨rfl, rfl, rfl⟩ := he; unfold rdI at he'; split at he'
    ·rename_i t x ho; exact IP ho hok he' h.1 h.2
    ·rename_i t x i ho; exact Ib (H' := H) hok (by rw [ho]; simp only [efX, AZ, he']) h.1 h.2
    ·rename_i t x i k ho; exact Ht ho hok he' h.1 h.2
    ·rename_i t n ps ho; split at he'
     ·rename_i sz rs hb; simp only [Option.some.injEq, Prod.mk.injEq] at he'; obtain ⟨rfl, rfl⟩ := he'; exact EP ho hok hb h.2
     ·cases he'
    ·exact Dw hok he' h.1 h.2
   ·cases he
  ·exact h.elim
theorem Dz {x : Option (Prop × IV × A3)} {K K' : IV → A3 → Prop} (h : AJ x K False) (hk : ∀ r H, K r H → K' r H) : AJ x K' False := by
 unfold AJ at h ⊢; split at h
 ·exact ⟨h.1, hk _ _ h.2⟩
 ·exact h
theorem Mc {o : Oper} {K K' : IV → A3 → Prop} {Qp Qp' : List PanicEntry → A3 → Prop} (h : vcS P o tm H K Qp) (hk : ∀ r H, K r H → K' r H) (hq : ∀ c H, Qp c H → Qp' c H) : vcS P o tm H K' Qp' := by
 unfold vcS at h ⊢; split at h
 ·unfold xI at h ⊢; split at h
  ·unfold E2 at h ⊢; split at h
   ·exact A6.mono h fun e H' he => by cases e <;> first | exact hk _ _ he | exact hq _ _ he
   ·exact h
  ·split at h
   ·exact Dz h hk
   ·exact h
  ·exact Dz h hk
  ·exact Dz h hk
  ·exact Dz h hk
  ·exact Dz h hk
  ·exact h
 ·exact Dz h hk
theorem Nb {tm tm' : Tm} {l : List Operand} (h : ∀ x, x ∈ l → ev tm x = ev tm' x) : l.map (ev tm) = l.map (ev tm') := List.map_congr_left h
theorem OM {tm tm' : Tm} {op : Op} (h : ∀ x, x ∈ op.operands.toList → ev tm x = ev tm' x) : evP P tm op = evP P tm' op := by
 cases op with
 | call c =>
  have e : ∀ x, x ∈ c.args.toList → ev tm x = ev tm' x := fun x hx => h x (by simp only [Op.operands, Call.operands, Array.toList_append, List.mem_append]; exact .inr hx); simp only [evP]; split
  ·split
   ·rename_i x t h1 h2; rw [e x (by rw [h1]; simp)]
   ·rfl
  ·rfl
 | build t ps =>
  have e : (ps.toList.map fun q => (q.1, ev tm q.2)) = ps.toList.map fun q => (q.1, ev tm' q.2) := List.map_congr_left fun q hq => by
   rw [h q.2 (by simp only [Op.operands, List.toList_toArray, List.mem_map, Array.toList_map]; exact ⟨q, hq, rfl⟩)]
  simp only [evP, e]
 | makeFunc f a b =>
  have e1 : a.toList.map (ev tm) = a.toList.map (ev tm') := Nb fun x hx => h x (by simp only [Op.operands, Array.toList_append, List.mem_append]; exact .inl hx); have e2 : b.toList.map (ev tm) = b.toList.map (ev tm') := Nb fun x hx => h x (by simp only [Op.operands, Array.toList_append, List.mem_append]; exact .inr hx); simp only [evP, e1, e2]
 | slice t x lo hi mx =>
  have e0 : ev tm x = ev tm' x := h x (by simp [Op.operands]); have e1 : lo.map (ev tm) = lo.map (ev tm') := by
   cases lo with
   | none => rfl
   | some y => simp only [Option.map_some]; rw [h y (by simp [Op.operands])]
  have e2 : hi.map (ev tm) = hi.map (ev tm') := by
   cases hi with
   | none => rfl
   | some y => simp only [Option.map_some]; rw [h y (by simp [Op.operands])]
  have e3 : mx.map (ev tm) = mx.map (ev tm') := by
   cases mx with
   | none => rfl
   | some y => simp only [Option.map_some]; rw [h y (by simp [Op.operands])]
  simp only [evP, e0, e1, e2, e3]
 | binOp op t x y t' =>
  have e0 : ev tm x = ev tm' x := h x (by simp [Op.operands]); have e1 : ev tm y = ev tm' y := h y (by simp [Op.operands]); simp only [evP, N0]; split
  ·rw [e0]
  ·rw [e0, e1]
 | _ => first
  | rfl
  | (rename_i x y z
     simp only [evP]
     rw [h x (by simp [Op.operands]), h y (by simp [Op.operands]), h z (by simp [Op.operands])])
  | (simp only [Op.operands, List.toList_toArray, List.mem_cons, List.not_mem_nil, or_false, forall_eq_or_imp, forall_eq] at h
     simp only [evP, h])
theorem Ie {tm tm' : Tm} {op : Op} (h : ∀ x, x ∈ op.operands.toList → ev tm x = ev tm' x) : rdI P H tm op = rdI P H tm' op := by
 cases op with
 | load t x =>
  simp only [rdI]; rw [h x (by simp [Op.operands])]
 | indexAddr t x y =>
  simp only [rdI]; rw [h x (by simp [Op.operands]), h y (by simp [Op.operands])]
 | lookup t x y k =>
  simp only [rdI]; rw [h x (by simp [Op.operands]), h y (by simp [Op.operands])]
 | buildSlice t n ps =>
  have e : (ps.toList.map fun q => (q.1, ev tm q.2)) = ps.toList.map fun q => (q.1, ev tm' q.2) := List.map_congr_left fun q hq => by
   rw [h q.2 (by simp only [Op.operands, List.toList_toArray, List.mem_map, Array.toList_map]; exact ⟨q, hq, rfl⟩)]
  simp only [rdI, e]
 | _ => exact OM (P := P) h
theorem PR {tm tm' : Tm} {op : Op} {K : IV → A3 → Prop} {Qp : List PanicEntry → A3 → Prop} (h : ∀ x, x ∈ op.operands.toList → ev tm x = ev tm' x) : xI P H tm op K Qp = xI P H tm' op K Qp := by
 unfold xI; split
 ·rename_i x args ats; simp only [Op.operands, Call.operands, Array.toList_append, List.mem_append] at h; rw [h x (.inl (by simp)), Nb fun y hy => h y (.inr hy)]
 ·rename_i args ats; split
  ·rename_i x y t t' h1 h2; simp only [Op.operands, Call.operands, Array.toList_append, List.mem_append] at h; rw [h x (.inr (by rw [h1]; simp)), h y (.inr (by rw [h1]; simp))]
  ·rfl
 ·rfl
 ·rename_i t x; rw [h x (by simp [Op.operands])]
 ·rename_i t x y; rw [h x (by simp [Op.operands]), h y (by simp [Op.operands])]
 ·rename_i t x y z; rw [h x (by simp [Op.operands]), h y (by simp [Op.operands]), h z (by simp [Op.operands])]
 ·rfl
theorem ON {tm tm' : Tm} {o : Oper} {K : IV → A3 → Prop} {Qp : List PanicEntry → A3 → Prop} (h : ∀ x, x ∈ o.op.operands.toList → ev tm x = ev tm' x) : vcS P o tm H K Qp = vcS P o tm' H K Qp := by
 unfold vcS; rw [PR h, Ie h]
end Go.Idl
namespace Go.Idl
open Go Go.RowKit
variable {P : Program} {N : Nat} {tm : Tm} {H : A3} {ops : Array Oper} {Q : Exit → Tm → A3 → Prop}
def ES (ops : Array Oper) (tm : Tm) (o : Oper) : Option Bool :=
  match o.guard with
  | none => some true
  | some (j, b) =>
    match (ops[j]?).bind (·.dst) with
    | some d => match tm d with | .v (.bool c) => some (c == b) | .v _ => some false | _ => none
    | none => none
def ET (P : Program) (ops : Array Oper) (o : Oper) (K : IV → A3 → Prop) (Qp : List PanicEntry → A3 → Prop) (tm : Tm) (H : A3) : Prop :=
  match ES ops tm o with
  | some true => vcS P o tm H K Qp
  | some false => K (.v undef) H
  | none => False
def EK (ops : Array Oper) (o : Oper) (tm tm' : Tm) : Prop := ∀ d, d ∈ o.looksAt ops → tm d = tm' d
theorem EK.ev {o : Oper} {tm tm' : Tm} (h : EK ops o tm tm') : ∀ x, x ∈ o.op.operands.toList → ev tm x = ev tm' x := by
 intro x hx; cases x with
 | tmp t => exact h t (List.mem_append_left _ (List.mem_filterMap.2 ⟨.tmp t, hx, rfl⟩))
 | _ => rfl
theorem EK.want {o : Oper} {tm tm' : Tm} (h : EK ops o tm tm') : ES ops tm o = ES ops tm' o := by
 unfold ES; split
 ·rfl
 ·rename_i j b hg; split
  ·rename_i d hd; rw [h d (List.mem_append_right _ (by rw [hg]; simp [hd]))]
  ·rfl
theorem EK.upd {o : Oper} {tm : Tm} {d : Option Tmp} {x : IV} (h : ∀ e, d = some e → e ∉ o.looksAt ops) : EK ops o (BR tm d x) tm := by
 intro e he; cases d with
 | none => rfl
 | some d => exact TC tm x (fun h' => h d rfl (h' ▸ he))
theorem EK.symm {o : Oper} {tm tm' : Tm} (h : EK ops o tm tm') : EK ops o tm' tm := fun d hd => (h d hd).symm
theorem EK.trans {o : Oper} {tm tm' tm'' : Tm} (h : EK ops o tm tm') (k : EK ops o tm' tm'') : EK ops o tm tm'' := fun d hd => (h d hd).trans (k d hd)
theorem IQ {o : Oper} {K : IV → A3 → Prop} {Qp : List PanicEntry → A3 → Prop} {tm tm' : Tm} (h : EK ops o tm tm') : ET P ops o K Qp tm H = ET P ops o K Qp tm' H := by
 unfold ET; rw [h.want, ON h.ev]
theorem GC {o : Oper} {K K' : IV → A3 → Prop} {Qp Qp' : List PanicEntry → A3 → Prop} (h : ET P ops o K Qp tm H) (hk : ∀ r H, K r H → K' r H) (hq : ∀ c H, Qp c H → Qp' c H) : ET P ops o K' Qp' tm H := by
 unfold ET at h ⊢; split at h
 ·exact Mc h hk hq
 ·exact hk _ _ h
 ·exact h
abbrev CN := List (Nat × (A3 → Prop))
def direct (o : Oper) (i : Nat) : Bool := o.after.any fun e => Region.binds .any e && e.on == i
def Th (S : CN) (o : Oper) (H : A3) : Prop := ∀ q, q ∈ S → direct o q.1 = false → q.2 H
def Hx (P : Program) (ops : Array Oper) (Q : Exit → Tm → A3 → Prop) (S : CN) : Nat → Array Bool → Tm → A3 → Prop
  | 0, listed, tm, H => Region.ready .any ops listed = [] ∧ Q .normal tm H
  | fuel + 1, listed, tm, H =>
    (Region.ready .any ops listed = [] → Q .normal tm H) ∧
    ∀ j, j ∈ Region.ready .any ops listed → ∀ o, ops[j]? = some o →
      ET P ops o (fun x H' => (¬ H' = H → Th S o H') ∧ Hx P ops Q S fuel (listed.setIfInBounds j true) (BR tm o.dst x) H') (fun ch H' => Q (.panic ch) tm H') tm H
def IS (x : Option (Prop × IV)) (r : IV) : Prop :=
  match x with
  | some (s, r') => s ∧ r' = r
  | none => False
def JG (P : Program) (ops : Array Oper) (o : Oper) (r : IV) (tm : Tm) (H : A3) : Prop :=
  (ES ops tm o = some true ∧ IS (rdI P H tm o.op) r) ∨ (ES ops tm o = some false ∧ r = .v undef)
def EL (P : Program) (ops : Array Oper) (o : Oper) (r : IV) (tm : Tm) (H : A3) : Prop := ∀ (K : IV → A3 → Prop) (Qp : List PanicEntry → A3 → Prop), K r H → ET P ops o K Qp tm H
theorem EL.congr {o : Oper} {r : IV} {tm tm' : Tm} (h : EK ops o tm tm') (k : EL P ops o r tm H) : EL P ops o r tm' H := fun K Qp hK => IQ h ▸ k K Qp hK
theorem JG.one {o : Oper} {r : IV} (hx : isX o.op = false) (h : JG P ops o r tm H) : EL P ops o r tm H := by
 intro K Qp hK; unfold ET; rcases h with ⟨h1, h2⟩ | ⟨h1, rfl⟩
 ·rw [h1]; unfold vcS; rw [hx]; unfold IS at h2; split at h2
  ·rename_i s r' he; obtain ⟨h3, rfl⟩ := h2; simp only [he, AZ, AJ]; exact ⟨h3, hK⟩
  ·exact h2.elim
 ·rw [h1]; exact hK
theorem EL.skip {o : Oper} (h : ES ops tm o = some false) : EL P ops o (.v undef) tm H := by
 intro K Qp hK; unfold ET; rw [h]; exact hK
theorem OO {tm : Tm} {d e : Option Tmp} {x y : IV} (h : ∀ i, d = some i → e ≠ some i) : BR (BR tm d x) e y = BR (BR tm e y) d x := by
 cases d with
 | none => rfl
 | some d =>
  cases e with
  | none => rfl
  | some e =>
   funext i; have hne : e ≠ d := fun h' => h d rfl (by rw [h']); simp only [BR, Go.Idl.upd]; by_cases h1 : i = e
   ·subst h1; simp [hne]
   ·by_cases h2 : i = d
    ·subst h2; simp [h1]
    ·simp [h1, h2]
theorem JH {q : Nat × (A3 → Prop)} {S : CN} : ∀ (fuel : Nat) (listed : Array Bool) (tm : Tm) (H : A3), Hx P ops Q (q :: S) fuel listed tm H → Hx P ops Q S fuel listed tm H
  | 0, _, _, _, h => h
  | fuel + 1, listed, tm, H, h => ⟨h.1, fun j hj o ho => GC (h.2 j hj o ho) (fun x H' h3 => ⟨fun e p hp => h3.1 e p (List.mem_cons_of_mem _ hp), JH fuel _ _ _ h3.2⟩) fun _ _ h => h⟩
theorem PS {op : Op} (h : OK op = false) {H H' : A3} : rdI P H tm op = rdI P H' tm op := by
 cases op <;> first | rfl | (simp [OK] at h)
theorem G2 {i : Nat} {oi : Oper} {r : IV} {F : A3 → Prop} (hi : ops[i]? = some oi) (hQ : ∀ (c : List PanicEntry) (i : Nat) (oi : Oper) (x : IV) (tm : Tm) (H : A3), ops[i]? = some oi → Q (.panic c) (BR tm oi.dst x) H → Q (.panic c) tm H) :
    ∀ (fuel : Nat) (listed : Array Bool) (S : CN) (tm : Tm) (H : A3),
      (∀ tm' H', EK ops oi tm tm' → F H' → EL P ops oi r tm' H') →
      (∀ j oj, ops[j]? = some oj → j ≠ i → listed.getD j true = false → direct oj i = false → oi.apart ops oj = true) →
      i ∈ Region.ready .any ops listed → EL P ops oi r tm H →
      Hx P ops Q ((i, F) :: S) fuel (listed.setIfInBounds i true) (BR tm oi.dst r) H → Hx P ops Q S (fuel + 1) listed tm H := by
 intro fuel
 induction fuel with
 | zero =>
  intro listed S tm H hF hfree hr hst h; refine ⟨fun e => (by rw [e] at hr; cases hr), fun j hj o ho => ?_⟩; by_cases hji : j = i
  ·subst hji; rw [hi] at ho; cases ho; exact hst _ _ ⟨fun e => absurd rfl e, JH _ _ _ _ h⟩
  ·have := ready_mono hj hji; rw [h.1] at this; cases this
 | succ fuel ih =>
  intro listed S tm H hF hfree hr hst h; refine ⟨fun e => (by rw [e] at hr; cases hr), fun j hj o ho => ?_⟩; by_cases hji : j = i
  ·subst hji; rw [hi] at ho; cases ho; exact hst _ _ ⟨fun e => absurd rfl e, JH _ _ _ _ h⟩
  ·have h1 := h.2 j (ready_mono hj hji) o ho; obtain ⟨hjun, o', ho', hall⟩ := mem_ready.1 hj; rw [ho] at ho'; cases ho'; have hnot : direct o i = false := by
    unfold direct; cases hd : o.after.any fun e => Region.binds .any e && e.on == i with
    | false => rfl
    | true =>
     obtain ⟨e, he, hb⟩ := Array.any_eq_true'.1 hd; simp only [Bool.and_eq_true, beq_iff_eq] at hb; have h1 := hall e he hb.1; have h0 := (mem_ready.1 hr).1; rw [hb.2] at h1; rcases Nat.lt_or_ge i listed.size with h' | h'
     ·simp [h'] at h0 h1; rw [h0] at h1; cases h1
     ·simp [Array.getElem?_eq_none h'] at h1
   obtain ⟨a1, a2, a3⟩ := Oper.apart_spec (hfree j o ho hji hjun hnot); have hsame : EK ops o (BR tm oi.dst r) tm := EK.upd a1; rw [IQ hsame] at h1; refine GC h1 (fun x H' h3 => ?_) (fun c H' h3 => hQ _ _ _ _ _ _ hi h3); obtain ⟨h3, h4⟩ := h3; refine ⟨fun e q hq => h3 e q (List.mem_cons_of_mem _ hq), ?_⟩; have hs : EK ops oi (BR tm o.dst x) tm := EK.upd a3; refine ih (listed.setIfInBounds j true) S (BR tm o.dst x) H' (fun tm' H'' e f => hF tm' H'' (hs.symm.trans e) f) ?_ (ready_mono hr (Ne.symm hji)) ?_ ?_
   ·intro k ok hk hki hun hno; refine hfree k ok hk hki ?_ hno; by_cases hjk : j = k
    ·subst hjk; exact hjun
    ·rw [getD_set_ne true hjk] at hun; exact hun
   ·by_cases e : H' = H
    ·subst e; exact hst.congr hs.symm
    ·exact hF _ _ hs.symm (h3 e (i, F) (by simp) hnot)
   ·rw [Array.setIfInBounds_comm _ _ hji, OO (d := o.dst) (e := oi.dst) (fun d hd e => a2 d e hd)]; exact h4
theorem JI {i : Nat} {S : CN} : ∀ (fuel : Nat) (listed : Array Bool) (tm : Tm) (H : A3), Hx P ops Q S fuel listed tm H → Hx P ops Q ((i, fun _ => True) :: S) fuel listed tm H
  | 0, _, _, _, h => h
  | fuel + 1, listed, tm, H, h => ⟨h.1, fun j hj o ho => GC (h.2 j hj o ho) (fun x H' h3 => ⟨fun e p hp => by
      rcases List.mem_cons.1 hp with hp | hp
      · subst hp; exact fun _ => trivial
      · exact h3.1 e p hp, JI fuel _ _ _ h3.2⟩) fun _ _ h => h⟩
theorem Md {o : Oper} {b : Bool} {a : Act} {w : World} {g : Gs} (hok : ops.toList.all (okO N) = true) (hN : a.tmps.size = N) (ra : RA w g a tm) (h : ES ops tm o = some b) : Region.wanted o (yielded ops a.tmps) = b := by
 unfold ES at h; unfold Region.wanted; split at h
 ·rename_i hg; rw [hg]; simpa using h
 ·rename_i j c hg; rw [hg]; split at h
  ·rename_i d hd; have hdN : d < a.tmps.size := by
    rw [Option.bind_eq_some_iff] at hd; obtain ⟨o', h1, h2⟩ := hd; have := List.all_eq_true.1 hok o' (by rw [Array.mem_toList_iff]; exact Array.mem_of_getElem? h1); simp only [okO, h2, Bool.and_eq_true, decide_eq_true_eq] at this; rw [hN]; exact this.2
   split at h
   ·rename_i q hq; have h1 := ra d hdN; rw [hq] at h1; have h2 := h1.v_eq; have h3 : a.tmps[d]? = some (.bool q) := by
     rw [Array.getElem?_eq_getElem hdN]; simpa [hdN] using h2
    simp only [Option.some.injEq] at h; simp [yielded, hd, h3, h]
   ·rename_i y hne hq; simp only [Option.some.injEq] at h; subst h; have h1 := ra d hdN; rw [hq] at h1; have h2 := h1.v_eq; have h3 : a.tmps[d]? = some y := by
     rw [Array.getElem?_eq_getElem hdN]; simpa [hdN] using h2
    have h4 : yielded ops a.tmps j = none := by
     simp only [yielded, hd, Option.bind_some, h3]; split
     ·rename_i c e; cases e; exact (hne c rfl).elim
     ·rfl
    simp [h4]
   ·cases h
  ·cases h
theorem Ig (hok : ops.toList.all (okO N) = true) {rr : Option Nat} {B : Nat} {D : List Deferred} {w0 : World} {g0 : Gs} {H0 : A3} (s0 : Sim w0 g0 H0) : ∀ (fuel : Nat) (listed : Array Bool) (tm : Tm) (H : A3), Hx P ops Q [] fuel listed tm H →
    ∀ (w : World) (g : Gs) (a : Act), AO w0 g0 w g → Sim w g H → RA w g a tm → a.tmps.size = N → B ≤ w.heap.size → Marks rr B D w g a.defers → wpAnyIn (FR rr) 0 P .any ops (Post rr B D N Q w0 g0) fuel listed a w
  | 0, listed, tm, H, h, w, g, a, m, s, ra, hN, hB, hm => ⟨h.1, tm, g, H, m, s, ra, hN, hm, by simp, h.2⟩
  | fuel + 1, listed, tm, H, h, w, g, a, m, s, ra, hN, hB, hm => by
    refine ⟨fun e => ⟨tm, g, H, m, s, ra, hN, hm, by simp, h.1 e⟩, fun j hj => ?_⟩
    obtain ⟨_, o, ho, _⟩ := mem_ready.1 hj
    have h1 := h.2 j hj o ho
    have hoo : okO N o = true := List.all_eq_true.1 hok o (by rw [Array.mem_toList_iff]; exact Array.mem_of_getElem? ho)
    unfold ET at h1
    split at h1
    · rename_i hw
      have hw' := Md hok hN ra hw
      have hio := OL hoo h1
      simp only [wpOpIn, ho, hw', if_true]
      unfold Oper.wpIn
      refine ⟨EO, ?_⟩
      have hsem : o.semAt (FR rr).round a.eval = execOp a.eval o := Oper.semAt_eq _ _ _ hio.nd
      rw [hsem]
      refine D8 ?_ ?_ ⟨rr, rfl⟩ (hio.run rr w g a s ra hN)
      · rintro a' w' ⟨x, i, g', H', rfl, m', s', hr, hk⟩
        exact Ig hok s0 fuel _ _ _ hk.2 w' g' _ (m.tr m' s0 s) s' ((ra.mono m').put hr) (by rw [Ed]; exact hN) (Nat.le_trans hB m'.size) (by rw [put_defers]; exact hm.mono m')
      · rintro e a' w' ⟨ch, g', H', rfl, rfl, m', s', hq⟩
        exact ⟨tm, g', H', m.tr m' s0 s, s', ra.mono m', hN, hm.mono m', by simp, hq⟩
    · rename_i hw
      have hw' := Md hok hN ra hw
      simp only [wpOpIn, ho, hw', Bool.false_eq_true, if_false]
      exact ⟨EO, Ig hok s0 fuel _ _ _ h1.2 w g _ m s (ra.put (.v _)) (by rw [Ed]; exact hN) hB (by rw [put_defers]; exact hm)⟩
    · exact h1.elim
def FE (o : Oper) (H : A3) : CN → Prop
  | [] => True
  | (i, F) :: S => (direct o i = false → F H) ∧ FE o H S
theorem FE.keeps {o : Oper} {H : A3} : ∀ {S : CN}, FE o H S → Th S o H
  | [], _, q, hq => by simp at hq
  | (i, F) :: S, h, q, hq => by
    rcases List.mem_cons.1 hq with e | e
    · subst e; exact h.1
    · exact h.2.keeps q e
def dRd (P : Program) (V : CN → Tm → A3 → Prop) (i : Nat) (o : Oper) (S : CN) (tm : Tm) : IV → A3 → Prop := fun x H =>
  V (match OK o.op with | true => (i, fun H' => IS (rdI P H' tm o.op) x) :: S | false => S) (BR tm o.dst x) H
def dX (V : CN → Tm → A3 → Prop) (o : Oper) (S : CN) (tm : Tm) : IV → A3 → Prop := fun x H => FE o H S ∧ V S (BR tm o.dst x) H
def Di (P : Program) (V : CN → Tm → A3 → Prop) (Q : Exit → Tm → A3 → Prop) (i : Nat) (o : Oper) (S : CN) (H : A3) : Tm → Prop := fun tm =>
  match isX o.op with
  | true => xI P H tm o.op (dX V o S tm) (Lj Q tm)
  | false => AJ (AZ (rdI P H tm o.op) H) (dRd P V i o S tm) False
def KL (V : CN → Tm → A3 → Prop) (o : Oper) (S : CN) (H : A3) : Tm → Prop := fun tm => V S (BR tm o.dst (.v undef)) H
def DS (P : Program) (H0 : A3) (f : FuncId) (args : List IV) (V : (A3 → Prop) → IV → Prop) : Prop := ∃ (T : A3 → Prop) (r : IV), T H0 ∧ (∀ (H : A3) (K : AB → A3 → Prop), T H → K (.ret r) H → A6 P f args H K) ∧ V T r
def PT (P : Program) (H0 : A3) (args : List IV) (V : (A3 → Prop) → IV → Prop) : FuncId → List IV → Prop := fun f cap => DS P H0 f (args ++ cap) V
def Me (P : Program) (V : CN → Tm → A3 → Prop) (i : Nat) (o : Oper) (S : CN) (H : A3) : Tm → Prop := fun tm =>
  match o.op with
  | .call { callee := .value x, args, .. } => E2 (fnP (ev tm x)) (PT P H (args.toList.map (ev tm)) fun T r => V ((i, T) :: S) (BR tm o.dst r) H) False
  | _ => False
def inP : List Nat → Nat → Bool
  | [], _ => false
  | a :: l, i => if a = i then true else inP l i
def JJ (P : Program) (V : CN → Tm → A3 → Prop) (Q : Exit → Tm → A3 → Prop) (i : Nat) (o : Oper) (S : CN) (H : A3) : Bool → Tm → Prop
  | true => Me P V i o S H
  | false => Di P V Q i o S H
def vcD (P : Program) (ops : Array Oper) (Q : Exit → Tm → A3 → Prop) (Pu : List Nat) : List Nat → CN → Tm → A3 → Prop
  | [], _, tm, H => Q .normal tm H
  | i :: L, S, tm, H =>
    match ops[i]? with
    | none => False
    | some o => vcG ops o tm (JJ P (vcD P ops Q Pu L) Q i o S H (inP Pu i)) (KL (vcD P ops Q Pu L) o S H)
def PU (ops : Array Oper) (Pu : List Nat) : List Nat → Array Bool → Bool
  | [], listed => (Region.ready .any ops listed).isEmpty
  | i :: L, listed =>
    match ops[i]? with
    | none => false
    | some o => (match isX o.op && !inP Pu i with | true => Region.ready .any ops listed == [i] | false => (Region.ready .any ops listed).contains i && Region.free .any ops listed i) && PU ops Pu L (listed.setIfInBounds i true)
theorem PV {V : CN → Tm → A3 → Prop} {i : Nat} {o : Oper} {S : CN} (hw : ES ops tm o = some true) (h : Me P V i o S H tm) : ∃ (T : A3 → Prop) (r : IV), T H ∧ (∀ tm' H', EK ops o tm tm' → T H' → EL P ops o r tm' H') ∧ V ((i, T) :: S) (BR tm o.dst r) H := by
 unfold Me at h; split at h
 ·rename_i x args ats ho; unfold E2 at h; split at h
  ·rename_i f cap hf; obtain ⟨T, r, h0, h1, h2⟩ := h; refine ⟨T, r, h0, fun tm' H' hs hT => EL.congr hs fun K Qp hK => ?_, h2⟩; unfold ET; rw [hw]; show vcS P o tm H' K Qp; have hX : isX o.op = true := by rw [ho]; rfl
   unfold vcS; rw [hX, ho]; show E2 (fnP (ev tm x)) (Ma P (args.toList.map (ev tm)) H' K Qp) False; rw [hf]; exact h1 H' _ hT hK
  ·exact h.elim
 ·exact h.elim
theorem PW {full : Array Oper} {o : Oper} {run skip : Tm → Prop} (h : vcG full o tm run skip) : (ES full tm o = some true ∧ run tm) ∨ (ES full tm o = some false ∧ skip tm) := by
 unfold vcG at h; unfold ES; split at h
 ·rename_i hg; exact .inl ⟨by rw [hg], h⟩
 ·rename_i j b hg; rw [hg]; split at h
  ·rename_i d hd; simp only [hd]; unfold DX at h; split at h
   ·rename_i c hc; rw [hc]; simp only; have key : E3 c b (run tm) (skip tm) := by
     cases c with
     | true => have := h.1 rfl; dsimp only at this; rwa [Hv hc] at this
     | false => have := h.2 rfl; dsimp only at this; rwa [Hv hc] at this
    unfold E3 at key; split at key
    ·rename_i e; exact .inl ⟨by rw [e]; simp, key⟩
    ·rename_i e; exact .inr ⟨by simp [e], key⟩
   ·rename_i y hne hc; refine .inr ⟨?_, h⟩; rw [hc]; split
    ·rename_i c e; cases e; exact (hne c rfl).elim
    ·rfl
    ·rename_i e1 e2; exact (e2 y rfl).elim
   ·exact h.elim
  ·exact h.elim
theorem Fe {Pu : List Nat} (hQ : ∀ (c : List PanicEntry) (i : Nat) (oi : Oper) (x : IV) (tm : Tm) (H : A3), ops[i]? = some oi → Q (.panic c) (BR tm oi.dst x) H → Q (.panic c) tm H) (hs : Region.noSelect ops = true) : ∀ (L : List Nat) (listed : Array Bool) (S : CN) (tm : Tm) (H : A3), PU ops Pu L listed = true → vcD P ops Q Pu L S tm H →
    Hx P ops Q S L.length listed tm H
  | [], listed, S, tm, H, hc, h => ⟨List.isEmpty_iff.1 hc, h⟩
  | i :: L, listed, S, tm, H, hc, h => by
    unfold PU at hc
    unfold vcD at h
    cases ho : ops[i]? with
    | none => simp [ho] at hc
    | some o =>
      simp only [ho, Bool.and_eq_true] at hc h
      obtain ⟨hc1, hc2⟩ := hc
      have hg := PW h
      cases hX : isX o.op && !inP Pu i with
      | true =>
        simp only [hX, beq_iff_eq] at hc1
        simp only [Bool.and_eq_true, Bool.not_eq_true'] at hX
        obtain ⟨hX, hP⟩ := hX
        refine ⟨fun e => (by rw [hc1] at e; cases e), fun j hj o' ho' => ?_⟩
        rw [hc1, List.mem_singleton] at hj
        subst hj
        rw [ho] at ho'
        cases ho'
        unfold ET
        rcases hg with ⟨h1, h2⟩ | ⟨h1, h2⟩
        · rw [h1]
          simp only [hP, JJ, Di, hX] at h2
          have h3 : vcS P o tm H (dX (vcD P ops Q Pu L) o S tm) (Lj Q tm) := by unfold vcS; rw [hX]; exact h2
          exact Mc h3 (fun x H' q => ⟨fun _ => q.1.keeps, Fe hQ hs L _ _ _ _ hc2 q.2⟩) (fun _ _ q => q)
        · rw [h1]
          exact ⟨fun e => absurd rfl e, Fe hQ hs L _ _ _ _ hc2 h2⟩
      | false =>
        simp only [hX, Bool.and_eq_true] at hc1
        have hr : i ∈ Region.ready .any ops listed := by simpa using hc1.1
        have hfree : ∀ j oj, ops[j]? = some oj → j ≠ i → listed.getD j true = false → direct oj i = false → o.apart ops oj = true := by
          intro j oj hj hne hun hd
          refine Region.free_spec ho hc1.2 j oj hj hne hun fun e he hb heq => ?_
          have : direct oj i = true := Array.any_eq_true'.2 ⟨e, he, by simp [hb, heq]⟩
          rw [hd] at this
          cases this
        rcases hg with ⟨h1, h2⟩ | ⟨h1, h2⟩
        · cases hP : inP Pu i with
          | true =>
            simp only [hP, JJ] at h2
            obtain ⟨T, r, h0, h3, h4⟩ := PV h1 h2
            exact G2 (F := T) ho hQ L.length listed S tm H (fun tm' H' e hT => h3 tm' H' e hT) hfree hr (h3 tm H (fun _ _ => rfl) h0) (Fe hQ hs L _ _ _ _ hc2 h4)
          | false =>
            have hX : isX o.op = false := by simpa [hP] using hX
            simp only [hP, JJ, Di, hX] at h2
            unfold AJ AZ at h2
            cases hrd : rdI P H tm o.op with
            | none => simp only [hrd] at h2
            | some q =>
              obtain ⟨sd, r⟩ := q
              simp only [hrd] at h2
              obtain ⟨h3, h4⟩ := h2
              have hst : JG P ops o r tm H := .inl ⟨h1, by unfold IS; rw [hrd]; exact ⟨h3, rfl⟩⟩
              unfold dRd at h4
              cases hRd : OK o.op with
              | true =>
                simp only [hRd] at h4
                refine G2 ho hQ L.length listed S tm H ?_ hfree hr (hst.one hX) (Fe hQ hs L _ _ _ _ hc2 h4)
                intro tm' H' hsm hF
                exact JG.one hX (.inl ⟨by rw [← hsm.want]; exact h1, by rw [← Ie hsm.ev]; exact hF⟩)
              | false =>
                simp only [hRd] at h4
                refine G2 (F := fun _ => True) ho hQ L.length listed S tm H ?_ hfree hr (hst.one hX) (JI _ _ _ _ (Fe hQ hs L _ _ _ _ hc2 h4))
                intro tm' H' hsm _
                refine JG.one hX (.inl ⟨by rw [← hsm.want]; exact h1, ?_⟩)
                rw [← Ie hsm.ev, PS hRd (H' := H)]
                unfold IS
                rw [hrd]
                exact ⟨h3, rfl⟩
        · refine G2 (F := fun _ => True) ho hQ L.length listed S tm H ?_ hfree hr (.skip h1) (JI _ _ _ _ (Fe hQ hs L _ _ _ _ hc2 h2))
          intro tm' H' hsm _
          exact .skip (by rw [← hsm.want]; exact h1)
theorem OP {id : Nat} (Pu L : List Nat) (hm : P.follows .mixedOrders = true) (hc : (ops.toList.all (okO N) && Region.noSelect ops && PU ops Pu L (Array.replicate ops.size false) && L.length == ops.size) = true)
    (hQ : ∀ (c : List PanicEntry) (i : Nat) (oi : Oper) (x : IV) (tm : Tm) (H : A3), ops[i]? = some oi → Q (.panic c) (BR tm oi.dst x) H → Q (.panic c) tm H) (h : vcD P ops Q Pu L [] tm H) : IWp P N (.region id ops true) Q tm H := by
 simp only [Bool.and_eq_true, beq_iff_eq] at hc; obtain ⟨⟨⟨h1, h2⟩, h3⟩, h4⟩ := hc; refine ⟨fun rr B D w g a s ra hN hB hmk => ?_⟩; have hany := Fe hQ h2 L _ [] tm H h3 h; rw [h4] at hany; have m' : AO w g { w with drawn := w.drawn + 1 } g := ⟨Nat.le_refl _, rfl, rfl, rfl, fun _ _ _ => rfl, fun _ _ e => e, rfl, Nat.le_refl _, fun _ _ e => ⟨e, rfl⟩, fun k m' _ e => ⟨m', e, Nat.le_refl _, fun _ => rfl⟩⟩; have s' : Sim { w with drawn := w.drawn + 1 } g H := ⟨s.nx, s.sh, s.lt, s.bk, s.inj, fun k o ho => Dc.mono m' (fun _ _ => rfl) (s.obj k o ho), s.old, fun p hp i hi => (s.snap p hp i hi).mono m'⟩; exact wpIn_region_any hm (Ig h1 s ops.size _ tm H hany _ g a m' s' (ra.mono m') hN hB (hmk.mono m'))
theorem Ck {id : Nat} (Pu L : List Nat) (hm : P.follows .mixedOrders = true) (hc : (ops.toList.all (okO N) && Region.noSelect ops && PU ops Pu L (Array.replicate ops.size false) && L.length == ops.size) = true)
    (hQ : ∀ c tm tm' H, Q (.panic c) tm H → Q (.panic c) tm' H) (h : vcD P ops Q Pu L [] tm H) : IWp P N (.region id ops true) Q tm H := OP Pu L hm hc (fun c _ _ _ _ _ _ h => hQ c _ _ _ h) h
end Go.Idl
namespace Go.Idl
open Go Go.RowKit
variable {P : Program} {N : Nat} {tm : Tm} {H : A3} {Q : Exit → Tm → A3 → Prop}
def dOp (P : Program) (l : List Oper) (V : CN → Tm → A3 → Prop) (Q : Exit → Tm → A3 → Prop) (b : Bool) (i : Nat) (S : CN) (tm : Tm) (H : A3) : Option Oper → Prop
  | none => False
  | some o => vcG ⟨l⟩ o tm (JJ P V Q i o S H b) (KL V o S H)
@[go_sem] theorem Y3 {ops : Array Oper} {S : CN} {Pu : List Nat} : vcD P ops Q Pu [] S tm H = Q .normal tm H := rfl
@[go_sem] theorem WV {l : List Oper} {i : Nat} {L Pu : List Nat} {S : CN} : vcD P ⟨l⟩ Q Pu (i :: L) S tm H = dOp P l (vcD P ⟨l⟩ Q Pu L) Q (inP Pu i) i S tm H l[i]? := by
 rw [vcD]; simp only [List.getElem?_toArray]; cases l[i]? <;> rfl
section
variable {l : List Oper} {V : CN → Tm → A3 → Prop} {i : Nat} {S : CN} {d : Option Tmp} {t : TypeId} {p : String} {af : Array Edge} {gd : Option (Nat × Bool)}
@[go_sem] theorem WW {op : Op} {c : Bool} : dOp P l V Q c i S tm H (some ⟨d, op, t, p, af, none⟩) = JJ P V Q i ⟨d, op, t, p, af, none⟩ S H c tm := rfl
@[go_sem] theorem WX {op : Op} {j : Nat} {b c : Bool} : dOp P l V Q c i S tm H (some ⟨d, op, t, p, af, some (j, b)⟩) = vcH (Mb l j) b tm (JJ P V Q i ⟨d, op, t, p, af, some (j, b)⟩ S H c) (KL V ⟨d, op, t, p, af, some (j, b)⟩ S H) := by
 show vcG ⟨l⟩ ⟨d, op, t, p, af, some (j, b)⟩ tm (JJ P V Q i ⟨d, op, t, p, af, some (j, b)⟩ S H c) (KL V ⟨d, op, t, p, af, some (j, b)⟩ S H) = vcH ((l[j]?).bind (·.dst)) b tm _ _; unfold vcG vcH; simp only [List.getElem?_toArray]; cases (l[j]?).bind (·.dst) <;> rfl
@[go_sem] theorem YX {o : Oper} {Q : Exit → Tm → A3 → Prop} : JJ P V Q i o S H true tm = Me P V i o S H tm := rfl
@[go_sem] theorem YY {o : Oper} {Q : Exit → Tm → A3 → Prop} : JJ P V Q i o S H false tm = Di P V Q i o S H tm := rfl
@[go_sem] theorem Y4 : inP [] i = false := rfl
@[go_sem] theorem WY {a : Nat} {m : List Nat} : inP (a :: m) i = if a = i then true else inP m i := rfl
@[go_sem] theorem U5 {x : Operand} {m : List Operand} {ats : Array TypeId} : Me P V i ⟨d, .call ⟨.value x, ⟨m⟩, ats⟩, t, p, af, gd⟩ S H tm =
    E2 (fnP (ev tm x)) (PT P H (m.map (ev tm)) fun T r => V ((i, T) :: S) (BR tm d r) H) False := rfl
@[go_sem] theorem Wi {args cap : List IV} {W : (A3 → Prop) → IV → Prop} {f : FuncId} : PT P H args W f cap = DS P H f (args ++ cap) W := rfl
theorem DS.mk {f : FuncId} {args : List IV} {W : (A3 → Prop) → IV → Prop} (r : IV) (h : ∀ (H : A3) (K : AB → A3 → Prop), K (.ret r) H → A6 P f args H K) (hW : W (fun _ => True) r) : DS P H f args W := ⟨_, r, trivial, fun H K _ => h H K, hW⟩
theorem DS.mkT {f : FuncId} {args : List IV} {W : (A3 → Prop) → IV → Prop} (T : A3 → Prop) (r : IV) (hT : T H) (h : ∀ (H : A3) (K : AB → A3 → Prop), T H → K (.ret r) H → A6 P f args H K) (hW : W T r) : DS P H f args W := ⟨T, r, hT, h, hW⟩
@[go_sem] theorem Wj {op : Op} : KL V ⟨d, op, t, p, af, gd⟩ S H tm = V S (BR tm d (.v undef)) H := rfl
@[go_sem] theorem YZ {op : Op} {x : IV} : dX V ⟨d, op, t, p, af, gd⟩ S tm x H = (FE ⟨d, op, t, p, af, gd⟩ H S ∧ V S (BR tm d x) H) := rfl
@[go_sem] theorem Y5 {op : Op} {x : IV} : dRd P V i ⟨d, op, t, p, af, gd⟩ S tm x H = V (match OK op with | true => (i, fun H' => IS (rdI P H' tm op) x) :: S | false => S) (BR tm d x) H := rfl
@[go_sem] theorem U6 {o : Oper} : FE o H [] = True := rfl
@[go_sem] theorem Ti {o : Oper} {F : A3 → Prop} : FE o H ((i, F) :: S) = ((direct o i = false → F H) ∧ FE o H S) := rfl
def S2 : List Edge → Nat → Bool
  | [], _ => false
  | e :: l, i => (Region.binds .any e && e.on == i) || S2 l i
@[go_sem] theorem Wl {op : Op} {l : List Edge} : direct ⟨d, op, t, p, ⟨l⟩, gd⟩ i = S2 l i := by
 unfold direct; simp only [List.any_toArray]
 induction l with
 | nil => rfl
 | cons e l ih => simp only [List.any_cons, S2, ih]
@[go_sem] theorem U7 {s : Prop} {x r : IV} : IS (some (s, x)) r = (s ∧ x = r) := rfl
@[go_sem] theorem U8 {r : IV} : IS none r = False := rfl
@[go_sem] theorem WZ {a : TypeId} {x : Operand} : rdI P H tm (.load a x) = ldX P H a (ev tm x) := rfl
@[go_sem] theorem Y_ {a : TypeId} {x y : Operand} : rdI P H tm (.indexAddr a x y) = ixX P H a (ev tm x) (ev tm y) := rfl
@[go_sem] theorem U9 {a : TypeId} {x y : Operand} {k : Bool} : rdI P H tm (.lookup a x y k) = lkX P H a (ev tm x) (ev tm y) k := rfl
@[go_sem] theorem Tj {a : TypeId} {x y : Operand} {k : Bool} : Di P V Q i ⟨d, .lookup a x y k, t, p, af, gd⟩ S H tm = AJ (AZ (lkX P H a (ev tm x) (ev tm y) k) H) (dRd P V i ⟨d, .lookup a x y k, t, p, af, gd⟩ S tm) False := rfl
@[go_sem] theorem PX {a : TypeId} {x y z : Operand} : Di P V Q i ⟨d, .mapUpdate a x y z, t, p, af, gd⟩ S H tm = AJ (muX P H a (ev tm x) (ev tm y) (ev tm z)) (dX V ⟨d, .mapUpdate a x y z, t, p, af, gd⟩ S tm) False := rfl
@[go_sem] theorem Wm {x : Operand} {l : List Operand} {ats : Array TypeId} : Di P V Q i ⟨d, .call ⟨.value x, ⟨l⟩, ats⟩, t, p, af, gd⟩ S H tm =
    E2 (fnP (ev tm x)) (Ma P (l.map (ev tm)) H (dX V ⟨d, .call ⟨.value x, ⟨l⟩, ats⟩, t, p, af, gd⟩ S tm) (Lj Q tm)) False := rfl
@[go_sem] theorem Tk {x y : Operand} {a b : TypeId} : Di P V Q i ⟨d, .call ⟨.builtin .append, #[x, y], #[a, b]⟩, t, p, af, gd⟩ S H tm =
    AJ (apI P H a b (ev tm x) (ev tm y)) (dX V ⟨d, .call ⟨.builtin .append, #[x, y], #[a, b]⟩, t, p, af, gd⟩ S tm) False := rfl
@[go_sem] theorem Ua {a : TypeId} : Di P V Q i ⟨d, .alloc a, t, p, af, gd⟩ S H tm = AJ (alX P H a) (dX V ⟨d, .alloc a, t, p, af, gd⟩ S tm) False := rfl
@[go_sem] theorem W_ {a : TypeId} {x : Operand} : Di P V Q i ⟨d, .box a x, t, p, af, gd⟩ S H tm = AJ (bxX H (ev tm x)) (dX V ⟨d, .box a x, t, p, af, gd⟩ S tm) False := rfl
@[go_sem] theorem Ub {a : TypeId} {x y : Operand} : Di P V Q i ⟨d, .store a x y, t, p, af, gd⟩ S H tm = AJ (stX P H a (ev tm x) (ev tm y)) (dX V ⟨d, .store a x y, t, p, af, gd⟩ S tm) False := rfl
@[go_sem] theorem X0 {x : Operand} {a : TypeId} : Di P V Q i ⟨d, .call ⟨.builtin .len, #[x], #[a]⟩, t, p, af, gd⟩ S H tm =
    AJ (AZ (Fx (P.underlying a) (ev tm x)) H) (dRd P V i ⟨d, .call ⟨.builtin .len, #[x], #[a]⟩, t, p, af, gd⟩ S tm) False := rfl
@[go_sem] theorem Wn {x : Operand} : Di P V Q i ⟨d, .move x, t, p, af, gd⟩ S H tm = dRd P V i ⟨d, .move x, t, p, af, gd⟩ S tm (ev tm x) H := true_and _
@[go_sem] theorem Tl {x : Operand} : Di P V Q i ⟨d, .assign x, t, p, af, gd⟩ S H tm = dRd P V i ⟨d, .assign x, t, p, af, gd⟩ S tm (ev tm x) H := true_and _
@[go_sem] theorem Wo {a : TypeId} {x : Operand} : Di P V Q i ⟨d, .load a x, t, p, af, gd⟩ S H tm = AJ (AZ (ldX P H a (ev tm x)) H) (dRd P V i ⟨d, .load a x, t, p, af, gd⟩ S tm) False := rfl
@[go_sem] theorem PY {a : TypeId} {x y : Operand} : Di P V Q i ⟨d, .indexAddr a x y, t, p, af, gd⟩ S H tm = AJ (AZ (ixX P H a (ev tm x) (ev tm y)) H) (dRd P V i ⟨d, .indexAddr a x y, t, p, af, gd⟩ S tm) False := rfl
def pkI (c x y : IV) : Option (Prop × IV) :=
  match c with
  | .v (.bool q) => some (True, if q = true then x else y)
  | _ => none
@[go_sem] theorem X1 {x y : IV} : pkI (.v (.bool true)) x y = some (True, x) := rfl
@[go_sem] theorem Wp {x y : IV} : pkI (.v (.bool false)) x y = some (True, y) := rfl
@[go_sem] theorem Wq {c a b : Operand} : Di P V Q i ⟨d, .pick c a b, t, p, af, gd⟩ S H tm = AJ (AZ (pkI (ev tm c) (ev tm a) (ev tm b)) H) (dRd P V i ⟨d, .pick c a b, t, p, af, gd⟩ S tm) False := rfl
@[go_sem] theorem Uc {a : TypeId} {l : List (Nat × Operand)} : Di P V Q i ⟨d, .build a ⟨l⟩, t, p, af, gd⟩ S H tm = AJ (AZ (bdP P a (l.map fun q => (q.1, ev tm q.2))) H) (dRd P V i ⟨d, .build a ⟨l⟩, t, p, af, gd⟩ S tm) False := rfl
@[go_sem] theorem Pp {a : TypeId} {n : Nat} {l : List (Nat × Operand)} : Di P V Q i ⟨d, .buildSlice a n ⟨l⟩, t, p, af, gd⟩ S H tm = AJ (AZ (bzI n (bsI P a n (l.map fun q => (q.1, ev tm q.2)))) H) (dRd P V i ⟨d, .buildSlice a n ⟨l⟩, t, p, af, gd⟩ S tm) False := rfl
@[go_sem] theorem RD {x : Operand} : Di P V Q i ⟨d, .nilCheck x, t, p, af, gd⟩ S H tm = AJ (AZ (ncP (ev tm x)) H) (dRd P V i ⟨d, .nilCheck x, t, p, af, gd⟩ S tm) False := rfl
@[go_sem] theorem Ud {op : BinOp} {a b : TypeId} {x y : Operand} : Di P V Q i ⟨d, .binOp op a x y b, t, p, af, gd⟩ S H tm = AJ (AZ (N0 P op a tm x y) H) (dRd P V i ⟨d, .binOp op a x y b, t, p, af, gd⟩ S tm) False := rfl
@[go_sem] theorem Wr {op : UnOp} {a : TypeId} {x : Operand} : Di P V Q i ⟨d, .unOp op a x, t, p, af, gd⟩ S H tm = AJ (AZ (unP op (ev tm x)) H) (dRd P V i ⟨d, .unOp op a x, t, p, af, gd⟩ S tm) False := rfl
@[go_sem] theorem S3 {a b : TypeId} {x : Operand} : Di P V Q i ⟨d, .convert a b x, t, p, af, gd⟩ S H tm = AJ (AZ (cvP P a b (ev tm x)) H) (dRd P V i ⟨d, .convert a b x, t, p, af, gd⟩ S tm) False := rfl
@[go_sem] theorem Nc {a : TypeId} {x : Operand} : Di P V Q i ⟨d, .makeInterface a x, t, p, af, gd⟩ S H tm = AJ (AZ (mkP P a (ev tm x)) H) (dRd P V i ⟨d, .makeInterface a x, t, p, af, gd⟩ S tm) False := rfl
@[go_sem] theorem Ue {a : TypeId} {x : Operand} {lo hi mx : Option Operand} : Di P V Q i ⟨d, .slice a x lo hi mx, t, p, af, gd⟩ S H tm =
    AJ (AZ (slP P (P.underlying a) (ev tm x) (lo.map (ev tm)) (hi.map (ev tm)) (mx.map (ev tm))) H) (dRd P V i ⟨d, .slice a x lo hi mx, t, p, af, gd⟩ S tm) False := rfl
@[go_sem] theorem PZ {a : TypeId} {x : Operand} {f : Nat} : Di P V Q i ⟨d, .fieldAddr a x f, t, p, af, gd⟩ S H tm = AJ (AZ (fdP P (P.underlying a) (ev tm x) f) H) (dRd P V i ⟨d, .fieldAddr a x f, t, p, af, gd⟩ S tm) False := rfl
@[go_sem] theorem Uf {a : TypeId} {x : Operand} {f : Nat} : Di P V Q i ⟨d, .field a x f, t, p, af, gd⟩ S H tm = AJ (AZ (fvP P (P.underlying a) (ev tm x) f) H) (dRd P V i ⟨d, .field a x f, t, p, af, gd⟩ S tm) False := rfl
@[go_sem] theorem Ug {a : TypeId} {x y : Operand} : Di P V Q i ⟨d, .index a x y, t, p, af, gd⟩ S H tm = AJ (AZ (ivP P (P.underlying a) (ev tm x) (ev tm y)) H) (dRd P V i ⟨d, .index a x y, t, p, af, gd⟩ S tm) False := rfl
@[go_sem] theorem S4 {x : Operand} {n : Nat} : Di P V Q i ⟨d, .extract x n, t, p, af, gd⟩ S H tm = AJ (AZ (exP (ev tm x) n) H) (dRd P V i ⟨d, .extract x n, t, p, af, gd⟩ S tm) False := rfl
end
attribute [go_sem] OK S2 Region.binds DO
@[go_sem] theorem wrap_i64 {n : Int} (h1 : -9223372036854775808 ≤ n) (h2 : n ≤ 9223372036854775807) : IntKind.i64.wrap n = n := IntWalk.i64_in n ⟨h1, h2⟩
@[go_sem] theorem wrap_u8 {n : Int} (h1 : 0 ≤ n) (h2 : n ≤ 255) : IntKind.u8.wrap n = n := IntWalk.u8_in n ⟨h1, h2⟩
@[go_sem] theorem wrap_u64 {n : Int} (h1 : 0 ≤ n) (h2 : n ≤ 18446744073709551615) : IntKind.u64.wrap n = n := IntWalk.u64_in n ⟨h1, h2⟩
inductive Bd : IV → Prop
  | v (x : Value) : Bd (.v x)
  | any : Bd .any
  | blk (b : Nat) (xs : Array Value) : Bd (.blk b xs)
  | sl (sz : Nat) (es : List (List IV)) (hn : es.length ≤ Er) (hs : ∀ e, e ∈ es → e.length = sz) (h : ∀ e, e ∈ es → ∀ c, c ∈ e → Bd c) : Bd (.sl sz es)
  | cp (cs : List IV) (h : ∀ c, c ∈ cs → Bd c) : Bd (.cp cs)
  | ag (cs : List IV) (h : ∀ c, c ∈ cs → Bd c) : Bd (.ag cs)
  | tu (cs : List IV) (h : ∀ c, c ∈ cs → Bd c) : Bd (.tu cs)
  | fn (f : Fn) (a b : List IV) : Bd (.fn f a b)
  | ifc (t : TypeId) (x : IV) (h : Bd x) : Bd (.ifc t x)
  | p (k off : Nat) : Bd (.p k off)
  | mp (k : Nat) : Bd (.mp k)
  | os (k m : Nat) : Bd (.os k m)
  | pr (k m off : Nat) : Bd (.pr k m off)
  | bs (k off m : Nat) : Bd (.bs k off m)
theorem R.bd {w : World} {g : Gs} {x : Value} {i : IV} (h : R w g x i) : Bd i := by
 induction h with
 | v x => exact .v x
 | any x => exact .any
 | blk b xs el f x hb h => exact .blk b xs
 | sl0 a cap sz => exact .sl _ _ (by simp [Er]) (by simp) (by simp)
 | sl b off cap sz es cv hb hlt hlen hcap hsz hc ho _ ih =>
  refine .sl _ _ hlen hsz fun e he c hc => ?_; obtain ⟨i, hi⟩ := List.getElem?_of_mem he; obtain ⟨j, hj⟩ := List.getElem?_of_mem hc; exact ih i e j c hi hj
 | cp b off cs cv hb hlt hc ho _ ih =>
  refine .cp _ fun c hc => ?_; obtain ⟨j, hj⟩ := List.getElem?_of_mem hc; exact ih j c hj
 | ag xs cs hl ho _ ih =>
  refine .ag _ fun c hc => ?_; obtain ⟨j, hj⟩ := List.getElem?_of_mem hc; have hlt : j < xs.size := by rw [hl]; exact (List.getElem?_eq_some_iff.1 hj).1
  exact ih j _ c (Array.getElem?_eq_getElem hlt) hj
 | tu xs cs hl _ ih =>
  refine .tu _ fun c hc => ?_; obtain ⟨j, hj⟩ := List.getElem?_of_mem hc; have hlt : j < xs.size := by rw [hl]; exact (List.getElem?_eq_some_iff.1 hj).1
  exact ih j _ c (Array.getElem?_eq_getElem hlt) hj
 | fn f xs ys fi ca hl hl' _ _ ih ih' => exact .fn _ _ _
 | ifc t x c _ ih => exact .ifc _ _ ih
 | p k off x hk hx h => exact .p _ _
 | mp k x hk hx h => exact .mp _
 | os k m x hk h hx => exact .os _ _
 | pr k m off x hk hx h => exact .pr _ _ _
 | bs k off m x hk hx h => exact .bs _ _ _
theorem EU {f : FuncId} {fn : Func} {c : Code} {args : List IV} {Q : AB → A3 → Prop} (hf : P.funcs[f]? = some fn) (hbd : BQ P f = true) (hb : fn.body = some c) (hN : fn.ntmps = N)
    (hn : (decide (args.length ≤ N) && fn.results.toList.all (rvN N) && Ja N c) = true)
    (h : H.Wf → (∀ a, a ∈ args → Bd a) → (∀ a, a ∈ args → NB H.next a) → vc P N c (N4 P fn.results.toList H Q) (tm0 args) H) : A6 P f args H Q := by
 refine ⟨hbd, fun w g vs s rl => ?_⟩; simp only [Bool.and_eq_true, decide_eq_true_eq] at hn; refine (Li hf hbd hb hN ⟨hn.1.1, hn.1.2, hn.2⟩ fun hw => h hw (fun a ha => ?_) (fun a ha => ?_)).run w g vs s rl
 ·obtain ⟨j, hj⟩ := List.getElem?_of_mem ha; have hlt : j < vs.size := by rw [rl.1]; exact (List.getElem?_eq_some_iff.1 hj).1
  exact (rl.2 j _ a (Array.getElem?_eq_getElem hlt) hj).bd
 ·obtain ⟨j, hj⟩ := List.getElem?_of_mem ha; have hlt : j < vs.size := by rw [rl.1]; exact (List.getElem?_eq_some_iff.1 hj).1
  have := (rl.2 j _ a (Array.getElem?_eq_getElem hlt) hj).nb
  rwa [s.nx] at this
end Go.Idl
namespace Go.Idl
open Go Go.RowKit
variable {P : Program} {N : Nat} {tm : Tm} {H : A3} {Q : Exit → Tm → A3 → Prop}
def Mf (l : Nat) (J : Tm → A3 → Prop) (Q : Exit → Tm → A3 → Prop) : Exit → Tm → A3 → Prop
  | .goto l', tm, H => l' = l ∧ J tm H
  | .normal, tm, H => Q .normal tm H
  | .exit id, tm, H => Q (.exit id) tm H
  | .ret, tm, H => Q .ret tm H
  | .panic ch, tm, H => Q (.panic ch) tm H
  | .outgrown, tm, H => Q .outgrown tm H
section
variable {b : Frame} {a : Act} {k : List Item} {cs : List Frame} {w : World}
end
structure JK (P : Program) (l : Nat) (args : List IV) (H : A3) (K : Bool → A3 → Prop) : Prop where
  run : ∀ (rr : Option Nat) (w : World) (g : Gs) (vs : Array Value), Sim w g H → RL w g vs args → ∃ f tmps assign body, (Instr.yield l vs).run P w = .ok (.round l f tmps assign body) w ∧
    RoundIn (FR rr) 0 P l f tmps assign body w (fun e w' => ∃ b g' H', e = .returned (.bool b) ∧ AO w g w' g' ∧ Sim w' g' H' ∧ K b H')
theorem JK.mono {l : Nat} {args : List IV} {K K' : Bool → A3 → Prop} (h : JK P l args H K) (hk : ∀ b H, K b H → K' b H) : JK P l args H K' :=
  ⟨fun rr w g vs s rl => let ⟨f, t, a, b, h1, h2⟩ := h.run rr w g vs s rl; ⟨f, t, a, b, h1, h2.mono fun e w' ⟨b, g', H', e1, e2, e3, e4⟩ => ⟨b, g', H', e1, e2, e3, hk _ _ e4⟩⟩⟩
abbrev yv (l : Nat) : IV := .v (.func (.yield l) #[] #[])
end Go.Idl
namespace Go.Idl
open Go Go.RowKit
variable {P : Program} {N : Nat} {tm : Tm} {H : A3} {Q : Exit → Tm → A3 → Prop}
theorem BY.Gl {w w' : World} {g g' : Gs} (m : IF w g w' g') {xs : Array Value} {cs : List IV} (h : BY w g xs cs) : BY w' g' xs cs :=
  ⟨h.1, fun j c hj => let ⟨x, h1, h2, h3⟩ := h.2 j c hj; ⟨x, h1, h2, h3.Gl m⟩⟩
theorem Dc.Gl {w w' : World} {g g' : Gs} (m : IF w g w' g') {x : Value} {o : HO} (hb : ∀ b, blk x = some b → w'.heap[b]? = w.heap[b]?) (h : Dc w g x o) : Dc w' g' x o := by
 induction o with
 | cells cs =>
  obtain ⟨b, xs, el, f, rfl, h2, h3, h4⟩ := h; exact ⟨b, xs, el, f, rfl, (hb b rfl).trans h2, h3, h4.Gl m⟩
 | row sz es =>
  obtain ⟨a, cap, rfl, h1, h2, h3, h4, h5⟩ := h; refine ⟨a, cap, rfl, h1, h2, h3, h4, ?_⟩; rcases h5 with h5 | ⟨b, xs, el, f, rfl, h6, h7, h8, h9⟩
  ·exact .inl h5
  ·exact .inr ⟨b, xs, el, f, rfl, (hb b rfl).trans h6, h7, h8, h9.Gl m⟩
 | obj o =>
  obtain ⟨b, rfl, h2, h3⟩ := h; exact ⟨b, rfl, (hb b rfl).trans h2, h3⟩
 | map es =>
  obtain ⟨b, ents, clock, rfl, h2, h3⟩ := h; exact ⟨b, ents, clock, rfl, (hb b rfl).trans h2, h3.imp fun x e _ hx => hx.Gl m⟩
 | Es bs c es =>
  obtain ⟨b, ents, rfl, h2, h3, h4⟩ := h; exact ⟨b, ents, rfl, (hb b rfl).trans h2, h3.imp fun x e _ hx => hx.Gl m, h4⟩
 | it km since seen c =>
  obtain ⟨b, bm, rfl, h2, h3⟩ := h; exact ⟨b, bm, rfl, (hb b rfl).trans h2, h3.Gl m⟩
 | ty t o ih => exact ⟨ih h.1, h.2.keep hb⟩
def A3.skip (H : A3) : A3 := { H with next := H.next + 1 }
section
variable {l : Nat} {t : Array Value} {Hu : A3} {r : Loop} {w : World} {g : Gs}
end
end Go.Idl
namespace Go.Idl
open Go Go.RowKit
variable {P : Program} {N : Nat} {tm : Tm} {H : A3} {Q : Exit → Tm → A3 → Prop}
theorem IF.trans {w w1 w2 : World} {g g1 g2 : Gs} (h : IF w g w1 g1) (k : IF w1 g1 w2 g2) : IF w g w2 g2 where
  size := Nat.le_trans h.size k.size
  keep := fun b hb hn => (k.keep b (Nat.lt_of_lt_of_le hb h.size) fun e => hn (h.own b hb e)).trans (h.keep b hb hn)
  own := fun b hb e => h.own b hb (k.own b (Nat.lt_of_lt_of_le hb h.size) e)
  nx := Nat.le_trans h.nx k.nx
  fx := fun i hi e => by
    obtain ⟨e1, e2⟩ := k.fx i (Nat.lt_of_lt_of_le hi h.nx) e
    obtain ⟨e3, e4⟩ := h.fx i hi e1
    exact ⟨e3, e2.trans e4⟩
  row := fun i m' hi e => by
    obtain ⟨m1, e1, l1, q1⟩ := k.row i m' (Nat.lt_of_lt_of_le hi h.nx) e
    obtain ⟨m, e2, l2, q2⟩ := h.row i m1 hi e1
    exact ⟨m, e2, Nat.le_trans l2 l1, fun e => (q1 (by omega)).trans (q2 (by omega))⟩
def Nd (K : A3 → Prop) (J : Exit → A3 → Prop) : Exit → Tm → A3 → Prop
  | .normal, _, H => K H
  | .ret, _, H => J .ret H
  | .exit id, _, H => J (.exit id) H
  | .goto t, _, H => J (.goto t) H
  | .panic _, _, _ => False
  | .outgrown, _, _ => False
end Go.Idl
namespace Go.Idl
open Go Go.RowKit
variable {P : Program} {N : Nat} {tm : Tm} {H : A3} {Q : Exit → Tm → A3 → Prop}
def Iter (P : Program) (gf : FuncId) (cap : List IV) (xs : List (List IV)) (C : List (Nat × HO)) : Prop :=
  BQ P gf = true ∧ ∀ (l : Nat) (I : Nat → A3 → Prop) (E : A3 → Prop) (H : A3), (∀ i H, I i H → ∀ p, p ∈ C → H.obj p.1 = some p.2) →
    (∀ i args H, xs[i]? = some args → I i H → JK P l args H (fun b H' => (b = true ∧ I (i + 1) H') ∨ (b = false ∧ E H'))) → I 0 H →
    A6 P gf (yv l :: cap) H (fun e H' => ∃ r, e = .ret r ∧ (I xs.length H' ∨ E H'))
theorem Bp.lt {rr : Option Nat} {B : Nat} {w : World} {g : Gs} : ∀ {ds : List Deferred}, Bp rr B w g ds → ∀ d, d ∈ ds → ∀ r, d.target = .collected r → r < w.heap.size
  | d :: ds, ⟨⟨r, h1, h2, h3, h4, h5, h6⟩, h⟩, d', hd, r', hr => by
    rcases List.mem_cons.1 hd with e | e
    · subst e
      rw [h1] at hr
      cases hr
      exact h3
    · exact h.lt d' e r' hr
theorem Wk.refl (i : IV) : Wk i i := fun _ _ _ h => h
theorem Wk.nil (sz : Nat) : Wk (.v (.slice none 0 0)) (.sl sz []) := fun _ _ x h => by rw [h.v_eq]; exact .sl0 _ _ _
theorem Fz.same {H J : A3} {i : IV} (h : NB J.next i) : Fz H J i i := .wk i i (.refl i) h
section
variable {n : Nat}
theorem Tn {sz : Nat} {es : List (List IV)} : NB n (.sl sz es) ↔ ∀ e, e ∈ es → ∀ c, c ∈ e → NB n c := ⟨fun h => by cases h with | sl _ _ h => exact h, .sl _ _⟩
theorem X2 {cs : List IV} : NB n (.ag cs) ↔ ∀ c, c ∈ cs → NB n c := ⟨fun h => by cases h with | ag _ h => exact h, .ag _⟩
theorem X3 {cs : List IV} : NB n (.tu cs) ↔ ∀ c, c ∈ cs → NB n c := ⟨fun h => by cases h with | tu _ h => exact h, .tu _⟩
theorem To {f : Fn} {a b : List IV} : NB n (.fn f a b) ↔ (∀ c, c ∈ a → NB n c) ∧ ∀ c, c ∈ b → NB n c := ⟨fun h => by cases h with | fn _ _ _ h h' => exact ⟨h, h'⟩, fun ⟨h, h'⟩ => .fn _ _ _ h h'⟩
theorem Z0 {k off : Nat} : NB n (.p k off) ↔ k < n := ⟨fun h => by cases h with | p _ _ h => exact h, .p _ _⟩
theorem X4 {k m : Nat} : NB n (.os k m) ↔ k < n := ⟨fun h => by cases h with | os _ _ h => exact h, .os _ _⟩
theorem X5 {k off m : Nat} : NB n (.bs k off m) ↔ k < n := ⟨fun h => by cases h with | bs _ _ _ h => exact h, .bs _ _ _⟩
theorem X6 {k : Nat} : NB n (.mp k) ↔ k < n := ⟨fun h => by cases h with | mp _ h => exact h, .mp _⟩
end
@[go_sem] theorem JL {H : A3} {o : HO} : (H.new o).next = H.next + 1 := rfl
@[go_sem] theorem X7 {H : A3} {k : Nat} {o : HO} : (H.set k o).next = H.next := rfl
@[go_sem] theorem X8 {H : A3} {k : Nat} : (H.del k).next = H.next := rfl
@[go_sem] theorem Ws {H : A3} : H.skip.next = H.next + 1 := rfl
@[go_sem] theorem S5 {H : A3} {o : HO} {i : Nat} : (H.new o).obj i = if i = H.next then some o else H.obj i := rfl
@[go_sem] theorem Y6 {H : A3} {k i : Nat} {o : HO} : (H.set k o).obj i = if i = k then some o else H.obj i := rfl
@[go_sem] theorem Y7 {H : A3} {k i : Nat} : (H.del k).obj i = if i = k then none else H.obj i := rfl
@[go_sem] theorem X9 {H : A3} {i : Nat} : H.skip.obj i = H.obj i := rfl
theorem Ext.skip {H H' : A3} (h : Ext H H') : Ext H H'.skip := ⟨h.wf, Nat.le_succ_of_le h.le, h.sub, h.sn⟩
@[go_sem] theorem Y8 {n : Nat} : n + 1 + 1 = n + 2 := rfl
@[go_sem] theorem Y9 {n : Nat} : n + 2 + 1 = n + 3 := rfl
@[go_sem] theorem Ya {n : Nat} : n + 3 + 1 = n + 4 := rfl
@[go_sem] theorem Yb {n : Nat} : n + 4 + 1 = n + 5 := rfl
@[go_sem] theorem Yc {n : Nat} : n + 5 + 1 = n + 6 := rfl
@[go_sem] theorem Yd {n : Nat} : n + 6 + 1 = n + 7 := rfl
@[go_sem] theorem Ye {n : Nat} : n + 7 + 1 = n + 8 := rfl
@[go_sem] theorem Yf {n : Nat} : n + 8 + 1 = n + 9 := rfl
@[go_sem] theorem Xa {n : Nat} : n + 9 + 1 = n + 10 := rfl
@[go_sem] theorem Xb {n : Nat} : n + 10 + 1 = n + 11 := rfl
@[go_sem] theorem Xc {n : Nat} : n + 11 + 1 = n + 12 := rfl
end Go.Idl
namespace Go.Idl
open Go Go.RowKit
variable {P : Program} {N : Nat} {tm : Tm} {H : A3}
theorem Mg {o : Oper} {K : IV → A3 → Prop} {Qp : List PanicEntry → A3 → Prop} {t t' e : TypeId} {x y : Operand} {sz : Nat} {es : List (List IV)} {op : BinOp} (ho : o.op = .binOp op t x y t') (hok : okO N o = true) (hu : P.underlying t = some (.slice e))
    (hx : ev tm x = .sl sz es) (hy : ev tm y = .v (.slice none 0 0)) (hop : op = .eql ∨ op = .neq) (h : ∀ b : Bool, (b = true → es = []) → K (.v (.bool (if op = .eql then b else !b))) H) : Av P N o tm H K Qp := by
 obtain ⟨dst, op', type, pos, after, guard⟩ := o; simp only at ho; subst ho; refine AU (by simp) fun w g a s r hN => ?_; subst hN; simp only [okO, Bool.and_eq_true, List.all_eq_true] at hok; have rx := r.ev (x := x) (hok.1 x (by simp [Op.operands])); have ry := r.ev (x := y) (hok.1 y (by simp [Op.operands])); rw [hx] at rx; rw [hy] at ry; obtain ⟨ad, cap, hxe, hne⟩ := rx.L8; have hye := ry.v_eq; have hq : (Op.equal t (.slice ad es.length cap) (.slice none 0 0)).run P w = .ok ad.isNone w := BS fun d => by
  cases ad <;> simp [Op.equalIn, run_underlying hu]
 have hb : ad.isNone = true → es = [] := by
  intro hb; apply List.eq_nil_of_length_eq_zero; rcases Nat.eq_zero_or_pos es.length with e | e
  ·exact e
  ·obtain ⟨b, off, rfl⟩ := hne e; simp at hb
 have hg : ∀ op ox oy, (eqGuard op t ox oy (.slice ad es.length cap) (.slice none 0 0)).run P w = .ok () w := fun op _ _ => by unfold eqGuard; split <;> rfl
 refine ⟨.bool (if op = .eql then ad.isNone else !ad.isNone), w, g, H, _, .inl ?_, .refl w g, s, .v _, h _ hb⟩; rcases hop with rfl | rfl
 ·have hb1 : (binOp .eql t (.slice ad es.length cap) (.slice none 0 0)).run P w = .ok (.bool ad.isNone) w := by simp [binOp, hq]
  have := Ev (hg .eql) hb1 x y; simp only [execOp, hxe, hye]; rw [Sem.run_bind]; rw [this]; rfl
 ·have hb1 : (binOp .neq t (.slice ad es.length cap) (.slice none 0 0)).run P w = .ok (.bool !ad.isNone) w := by simp [binOp, hq]
  have := Ev (hg .neq) hb1 x y; simp only [execOp, hxe, hye]; rw [Sem.run_bind]; rw [this]; rfl
theorem JM : ∀ (l : List IV), chunks 1 l.length l = l.map fun x => [x]
  | [] => rfl
  | x :: l => by simp [chunks, JM l]
theorem IT {n : Nat} {l : List IV} (h : l.length = n) : chunks 1 n l = l.map fun x => [x] := by rw [← h]; exact JM l
theorem fz2 {H J : A3} {a b a' b' : IV} (h : Fz H J a b) (h' : Fz H J a' b') : ∀ (j : Nat) (c c' : IV), [a, a'][j]? = some c → [b, b'][j]? = some c' → Fz H J c c'
  | 0, _, _, h1, h2 => by cases h1; cases h2; exact h
  | 1, _, _, h1, h2 => by cases h1; cases h2; exact h'
  | j + 2, _, _, h1, _ => by simp at h1
theorem fzs {H J : A3} {l : List IV} (h : ∀ c, c ∈ l → NB J.next c) : ∀ (j : Nat) (c c' : IV), l[j]? = some c → l[j]? = some c' → Fz H J c c' := fun j c c' h1 h2 => by
  rw [h1] at h2
  cases h2
  exact .same (h c (List.mem_of_getElem? h1))
theorem Fz.row {H J : A3} {k m sz : Nat} {es : List (List IV)} (hk : J.obj k = none) (ho : H.obj k = some (.row sz es)) (hm : es.length = m) (h : NB J.next (.sl sz es)) : Fz H J (.os k m) (.sl sz es) :=
  .os k m sz es es hk ho hm rfl (fun _ _ _ h1 h2 => by rw [h1] at h2; cases h2; rfl) fun i e e' h1 h2 => by
    rw [h1] at h2
    cases h2
    exact fzs (Tn.1 h e (List.mem_of_getElem? h1))
theorem Fz.ptr {H J : A3} {k : Nat} {cs : List IV} (hk : J.obj k = none) (ho : H.obj k = some (.cells cs)) (h : ∀ c, c ∈ cs → NB J.next c) : Fz H J (.p k 0) (.cp cs) :=
  .p k 0 cs cs hk ho rfl (fzs h)
end Go.Idl
namespace Go.Idl
open Go Go.RowKit
variable {P : Program} {N : Nat} {tm : Tm} {H : A3}
def A3.fix (H : A3) (k : Nat) (cs : List IV) : A3 := { next := H.next + 1, obj := fun i => if i = H.next then some (.cells cs) else if i = k then none else H.obj i, sn := H.sn }
def Ff (g : Gs) (k b : Nat) : Gs := { oth := g.oth, mu := fun i => if i = g.nx then .pointer (some ⟨b, 0, none⟩) else g.mu i, sh := fun i => if i = g.nx then some .fx else if i = k then none else g.sh i, nx := g.nx + 1 }
theorem S6 {k sz : Nat} {es : List (List IV)} (hk : H.obj k = some (.row sz es)) (hn : 0 < es.length) {w : World} {g : Gs} (s : Sim w g H) :
    ∃ b cap, g.mu k = .slice (some ⟨b, 0, none⟩) es.length cap ∧ es.length ≤ cap ∧ AO w g w (Ff g k b) ∧ Sim w (Ff g k b) (H.fix k es.flatten) := by
 obtain ⟨a, cap, h1, h2, h3, h4, h5, h6⟩ := s.obj k _ hk; rcases h6 with ⟨_, h6⟩ | ⟨b, xs, el, f, rfl, h7, h8, h9, h10⟩
 ·omega
 have hsh : g.sh k = some (.row es.length) := by rw [s.sh, A3.sh, hk]; rfl
 have hkl : k < H.next := s.lt k (by rw [hk]; rfl); have hne : k ≠ g.nx := by rw [s.nx]; omega
 refine ⟨b, cap, h1, h2, ?_⟩; have hb := s.bk k b (by rw [hsh]; rfl) (by rw [h1]; rfl); have hcase : ∀ i, ((Ff g k b).sh i).isSome = true → i = g.nx ∨ (i ≠ g.nx ∧ i ≠ k ∧ (g.sh i).isSome = true) := by
  intro i h; simp only [Ff] at h; split at h
  ·rename_i e; exact .inl e
  ·rename_i e; split at h
   ·cases h
   ·rename_i e'; exact .inr ⟨e, e', h⟩
 have m : AO w g w (Ff g k b) := by
  refine ⟨Nat.le_refl _, rfl, rfl, rfl, fun _ _ _ => rfl, ?_, rfl, Nat.le_succ _, ?_, ?_⟩
  ·rintro c hc (h | ⟨i, q1, q2⟩)
   ·exact .inl h
   ·rcases hcase i q1 with e | ⟨e, e', q3⟩
    ·simp only [Ff, if_pos e, blk, Option.some.injEq] at q2; subst q2; exact .inr ⟨k, by rw [hsh]; rfl, by rw [h1]; rfl⟩
    ·simp only [Ff, if_neg e] at q2; exact .inr ⟨i, q3, q2⟩
  ·intro i hi h; have e : ¬ i = g.nx := by omega
   simp only [Ff, if_neg e] at h ⊢; split at h
   ·cases h
   ·exact ⟨h, trivial⟩
  ·intro i m' hi h; have e : ¬ i = g.nx := by omega
   simp only [Ff, if_neg e] at h ⊢; split at h
   ·cases h
   ·exact ⟨m', h, Nat.le_refl _, fun _ => trivial⟩
 refine ⟨m, ⟨?_, fun i => ?_, fun i h => ?_, fun i c q1 q2 => ?_, fun i j c q1 q2 q3 q4 => ?_, fun i o h => ?_, s.old, fun p hp i hi => (s.snap p hp i hi).mono m⟩⟩
 ·show g.nx + 1 = _; rw [s.nx]; rfl
 ·simp only [Ff, A3.sh, A3.fix, s.nx]; by_cases e : i = H.next
  ·simp [e, HO.sh]
  ·by_cases e' : i = k
   ·rw [if_neg e, if_pos e', if_neg e, if_pos e']; rfl
   ·rw [if_neg e, if_neg e', if_neg e, if_neg e']; exact s.sh i
 ·simp only [A3.fix] at h ⊢; split at h
  ·rename_i e; omega
  ·split at h
   ·cases h
   ·exact Nat.lt_succ_of_lt (s.lt i h)
 ·rcases hcase i q1 with e | ⟨e, e', q3⟩
  ·simp only [Ff, if_pos e, blk, Option.some.injEq] at q2 ⊢; subst q2; exact hb
  ·simp only [Ff, if_neg e] at q2 ⊢; exact s.bk i c q3 q2
 ·rcases hcase i q1 with e | ⟨e, e', q5⟩ <;> rcases hcase j q2 with d | ⟨d, d', q6⟩
  ·rw [e, d]
  ·simp only [Ff, if_pos e, if_neg d, blk, Option.some.injEq] at q3 q4; subst q3; exact absurd (s.inj j k b q6 (by rw [hsh]; rfl) q4 (by rw [h1]; rfl)) d'
  ·simp only [Ff, if_neg e, if_pos d, blk, Option.some.injEq] at q3 q4; subst q4; exact absurd (s.inj i k b q5 (by rw [hsh]; rfl) q3 (by rw [h1]; rfl)) e'
  ·simp only [Ff, if_neg e, if_neg d] at q3 q4; exact s.inj i j c q5 q6 q3 q4
 ·simp only [A3.fix] at h; split at h
  ·rename_i e; cases h; have e' : i = g.nx := by rw [s.nx]; exact e
   refine ⟨b, xs, el, f, by simp [Ff, e'], h7, h8, h10.mono m⟩
  ·rename_i e; split at h
   ·cases h
   ·have e' : ¬ i = g.nx := by rw [s.nx]; exact e
    have hmu : (Ff g k b).mu i = g.mu i := by simp [Ff, e']
    rw [hmu]; exact (s.obj i o h).mono m fun _ _ => rfl
theorem GhR.fix {k sz : Nat} {es : List (List IV)} (hk : H.obj k = some (.row sz es)) (hn : 0 < es.length) : GhR (.os k es.length) H (.bs H.next 0 es.length) (H.fix k es.flatten) := by
 intro w g s; obtain ⟨b, cap, h1, h2, m, s'⟩ := S6 hk hn s; refine ⟨_, m, s', fun x hx => ?_⟩; have hsh : g.sh k = some (.row es.length) := by rw [s.sh, A3.sh, hk]; rfl
 cases hx with
 | os _ _ _ _ h _ =>
  have hx := (h _ hsh).2 rfl; rw [hx, h1]; refine .bs _ _ _ _ (by rw [← s.nx]; exact Nat.lt_succ_self _) ⟨_, _, rfl, h2⟩ fun _ _ _ => ⟨b, cap, ?_, rfl⟩; simp [Ff, s.nx]
theorem GhR.drop {r r' : IV} {J : A3} (hs : Ld J H) (hnx : J.next = H.next) (hsn : J.sn = H.sn) (hf : Fz H J r r') : GhR r H r' J := by
 intro w g s; have hlt : ∀ k o, J.obj k = some o → k < J.next := fun k o h => by
  rcases Nat.lt_or_ge k J.next with e | e
  ·exact e
  ·have h1 := hs k o h; rw [s.wf k (by omega)] at h1; cases h1
 have he : Dg H H J := ⟨by omega, by omega, hs, hlt, .inl hnx, hsn⟩; obtain ⟨s1, m1⟩ := he.sim s (.refl w g) s; exact ⟨_, m1, s1, fun x hx => hf.sound s hs hx⟩
def A3.keep (H : A3) (n k : Nat) : A3 := { H with obj := fun i => if i < n ∨ i = k then H.obj i else none }
theorem Mh {n k : Nat} : Ld (H.keep n k) H := by
 intro i o h; simp only [A3.keep] at h; split at h
 ·exact h
 ·cases h
theorem GhR.keep {r : IV} (n k : Nat) : GhR r H r (H.keep n k) := by
 intro w g s; have he : Dg H H (H.keep n k) := ⟨Nat.le_refl _, Nat.le_refl _, Mh, fun i o h => s.lt i (by rw [Mh i o h]; rfl), .inl rfl, rfl⟩; obtain ⟨s1, m1⟩ := he.sim s (.refl w g) s; refine ⟨_, m1, s1, fun x hx => hx.to (he.sub.sh s) ?_⟩; have := hx.nb; rw [s.nx] at this; exact this
@[go_sem] theorem Wt {n k : Nat} : (H.keep n k).next = H.next := rfl
@[go_sem] theorem Xd {n k i : Nat} : (H.keep n k).obj i = if i < n ∨ i = k then H.obj i else none := rfl
@[go_sem] theorem Xe {k : Nat} {cs : List IV} : (H.fix k cs).next = H.next + 1 := rfl
@[go_sem] theorem Yg {k i : Nat} {cs : List IV} : (H.fix k cs).obj i = if i = H.next then some (.cells cs) else if i = k then none else H.obj i := rfl
theorem Ext.keep {H H' : A3} (h : Ext H H') (k : Nat) : Ext H (H'.keep H.next k) := by
 refine ⟨h.wf, h.le, fun i o hi => ?_, h.sn⟩; simp only [A3.keep]; have : i < H.next := by
  rcases Nat.lt_or_ge i H.next with e | e
  ·exact e
  ·rw [h.wf i e] at hi; cases hi
 rw [if_pos (.inl this)]; exact h.sub i o hi
theorem Ext.fix {H H' : A3} (h : Ext H H') {k : Nat} (hk : H.next ≤ k) (cs : List IV) : Ext H (H'.fix k cs) := by
 refine ⟨h.wf, Nat.le_succ_of_le h.le, fun i o hi => ?_, h.sn⟩; have : i < H.next := by
  rcases Nat.lt_or_ge i H.next with e | e
  ·exact e
  ·rw [h.wf i e] at hi; cases hi
 have hle := h.le; simp only [A3.fix]; rw [if_neg (by omega), if_neg (by omega)]; exact h.sub i o hi
end Go.Idl
namespace Go.Idl
open Go Go.RowKit
variable {P : Program} {N : Nat} {tm : Tm} {H : A3} {Q : Exit → Tm → A3 → Prop}
def Xf {σ : Type} (P : Program) (gf : FuncId) (cap : List IV) (s0 : σ) (nx : σ → List IV → σ → Prop) (fin : σ → Prop) (C : List (Nat × HO)) : Prop :=
  BQ P gf = true ∧ ∀ (l : Nat) (I : σ → A3 → Prop) (E : A3 → Prop) (H : A3), (∀ i H, I i H → ∀ p, p ∈ C → H.obj p.1 = some p.2) →
    (∀ i args i' H, nx i args i' → I i H → JK P l args H (fun b H' => (b = true ∧ I i' H') ∨ (b = false ∧ E H'))) → I s0 H →
    A6 P gf (yv l :: cap) H (fun e H' => ∃ r, e = .ret r ∧ ((∃ i, fin i ∧ I i H') ∨ E H'))
theorem Iter.toS {gf : FuncId} {cap : List IV} {xs : List (List IV)} {C : List (Nat × HO)} (h : Iter P gf cap xs C) : Xf P gf cap 0 (fun i args i' => xs[i]? = some args ∧ i' = i + 1) (fun i => i = xs.length) C :=
  ⟨h.1, fun l I E H hC hy h0 => (h.2 l I E H hC (fun i args H hx hI => hy i args (i + 1) H ⟨hx, rfl⟩ hI) h0).mono fun e H' ⟨r, h1, h2⟩ => ⟨r, h1, h2.imp (fun h => ⟨_, rfl, h⟩) id⟩⟩
end Go.Idl
namespace Go.Idl
open Go Go.RowKit
variable {P : Program} {N : Nat} {tm : Tm} {H : A3}
section
variable {κ α : Type} [DecidableEq κ]
def C3 : List (κ × α) → κ → Option α
  | [], _ => none
  | p :: m, k => if p.1 = k then some p.2 else C3 m k
def Nf : List (κ × α) → κ → α → List (κ × α)
  | [], k, v => [(k, v)]
  | p :: m, k, v => if p.1 = k then (k, v) :: m else p :: Nf m k v
def CT : List (κ × α) → κ → List (κ × α)
  | [], _ => []
  | p :: m, k => if p.1 = k then m else p :: CT m k
end
def mE {α : Type} (f : α → IV) (m : List (List UInt8 × α)) : List (Value × IV) := m.map fun p => (str p.1, f p.2)
def mI {α : Type} (j : IntKind) (f : α → IV) (m : List (Int × α)) : List (Value × IV) := m.map fun p => (.int j p.1, f p.2)
theorem Ih {a b : List UInt8} : ER (str a) (str b) = decide (b = a) := by
 show ((⟨a.toArray⟩ : ByteArray) == ⟨b.toArray⟩) = decide (b = a); rw [Bool.eq_iff_iff, Go.MapKept.bytes_beq, decide_eq_true_eq]; constructor
 ·intro h; have := congrArg (fun x : ByteArray => x.data.toList) h; simpa using this.symm
 ·rintro rfl; rfl
section
variable {α : Type} {f : α → IV} {m : List (List UInt8 × α)}
theorem P_ {k : List UInt8} : lkI (str k) (mE f m) = (C3 m k).map f := by
 induction m with
 | nil => rfl
 | cons p m ih =>
  have e : mE f (p :: m) = (str p.1, f p.2) :: mE f m := rfl; rw [e]; unfold lkI at ih ⊢; rw [List.find?_cons]; simp only [Ih, C3]; by_cases h : p.1 = k
  ·simp [h]
  ·simp only [h, decide_false, if_false]; exact ih
theorem S7 (f : α → IV) (m : List (List UInt8 × α)) (k : List UInt8) (v : α) : Fw (str k) (f v) (mE f m) = mE f (Nf m k v) := by
 induction m with
 | nil => rfl
 | cons p m ih =>
  have e : mE f (p :: m) = (str p.1, f p.2) :: mE f m := rfl; rw [e]; simp only [Fw, Ih, Nf]; by_cases h : p.1 = k
  ·simp [h, mE]
  ·simp only [h, decide_false, if_false, Bool.false_eq_true]; rw [ih]; rfl
theorem S8 {k : List UInt8} : Gi (str k) (mE f m) = mE f (CT m k) := by
 induction m with
 | nil => rfl
 | cons p m ih =>
  have e : mE f (p :: m) = (str p.1, f p.2) :: mE f m := rfl; rw [e]; simp only [Gi, Ih, CT]; by_cases h : p.1 = k
  ·simp [h, mE]
  ·simp only [h, decide_false, if_false, Bool.false_eq_true]; rw [ih]; rfl
@[go_sem] theorem Uh {f : α → IV} : mE f [] = [] := rfl
@[go_sem] theorem Yh : ((mE f m).all fun e => AV .string e.1) = true := by simp [mE, AV]
end
section
variable {α : Type} {j : IntKind} {f : α → IV} {m : List (Int × α)}
end
@[go_sem] theorem Wu {s : ByteArray} : AV .string (.string s) = true := rfl
@[go_sem] theorem Xg {d : TypeDesc} : (([] : List (Value × IV)).all fun e => AV d e.1) = true := rfl
theorem Tp {α : Type} (f : α → IV) (d : α) {z : IV} {o : Option α} (hz : f d = z) : okI true z (o.map f) = .tu [f (o.getD d), .v (.bool o.isSome)] := by
 subst hz; cases o <;> simp [okI]
def zvA (P : Program) (t : TypeId) (z : Option Value) (u : Option TypeDesc) : Option IV :=
  match z with
  | some (.slice none 0 0) => match u with | some (.slice e) => some (.sl (P.cellsOf e) []) | _ => none
  | some (.agg cs) => if (cs.toList.all (·.oneCell')) = true then some (.ag (zvc cs.toList (Hs P 9 t))) else none
  | some z => some (.v z)
  | none => none
@[go_sem] theorem Z1 {t : TypeId} : zvI P t = zvA P t (zeroOf P t) (P.underlying t) := rfl
@[go_sem] theorem Z2 {t : TypeId} {e : TypeId} : zvA P t (some (.slice none 0 0)) (some (.slice e)) = some (.sl (P.cellsOf e) []) := rfl
@[go_sem] theorem Yi {t : TypeId} {u : Option TypeDesc} {j : IntKind} {n : Int} : zvA P t (some (.int j n)) u = some (.v (.int j n)) := rfl
@[go_sem] theorem Xh {t : TypeId} {u : Option TypeDesc} {b : Bool} : zvA P t (some (.bool b)) u = some (.v (.bool b)) := rfl
@[go_sem] theorem Yj {t : TypeId} {u : Option TypeDesc} {s : ByteArray} : zvA P t (some (.string s)) u = some (.v (.string s)) := rfl
attribute [go_sem] zvc
def lkB (d : Option TypeDesc) (z : Option IV) (H : A3) (x i : IV) (ok : Bool) : Option (Prop × IV) :=
  match d, z, i with
  | some d, some z, .v k =>
    match x with
    | .mp m =>
      match H.obj m with
      | some (.map es) => some (AV d k = true ∧ (es.all fun e => AV d e.1) = true, okI ok z (lkI k es))
      | some (.Es _ _ es) => some (AV d k = true ∧ (es.all fun e => AV d e.1) = true, okI ok z (lkI k es))
      | _ => none
    | .v (.map none) => some (AV d k = true, okI ok z none)
    | _ => none
  | _, _, _ => none
def lkA (P : Program) (u : Option TypeDesc) (H : A3) (x i : IV) (ok : Bool) : Option (Prop × IV) :=
  match u with
  | some (.map kt et) => lkB (P.underlying kt) (zvI P et) H x i ok
  | _ => none
def lkC (d : TypeDesc) (z : IV) (k : Value) (ok : Bool) (o : Option HO) : Option (Prop × IV) :=
  match o with
  | some (.map es) => some (AV d k = true ∧ (es.all fun e => AV d e.1) = true, okI ok z (lkI k es))
  | some (.Es _ _ es) => some (AV d k = true ∧ (es.all fun e => AV d e.1) = true, okI ok z (lkI k es))
  | _ => none
@[go_sem] theorem Z3 {t : TypeId} {x i : IV} {ok : Bool} : lkX P H t x i ok = lkA P (P.underlying t) H x i ok := rfl
@[go_sem] theorem Yk {kt et : TypeId} {x i : IV} {ok : Bool} : lkA P (some (.map kt et)) H x i ok = lkB (P.underlying kt) (zvI P et) H x i ok := rfl
@[go_sem] theorem Z4 {d : TypeDesc} {z : IV} {m : Nat} {k : Value} {ok : Bool} : lkB (some d) (some z) H (.mp m) (.v k) ok = lkC d z k ok (H.obj m) := rfl
@[go_sem] theorem Yl {d : TypeDesc} {z : IV} {k : Value} {ok : Bool} : lkB (some d) (some z) H (.v (.map none)) (.v k) ok = some (AV d k = true, okI ok z none) := rfl
@[go_sem] theorem Ym {d : TypeDesc} {z : IV} {k : Value} {ok : Bool} {es : List (Value × IV)} : lkC d z k ok (some (.map es)) = some (AV d k = true ∧ (es.all fun e => AV d e.1) = true, okI ok z (lkI k es)) := rfl
def muB (d : Option TypeDesc) (H : A3) (x i y : IV) : Option (Prop × IV × A3) :=
  match d, i, x with
  | some d, .v k, .mp m =>
    match H.obj m with
    | some (.map es) => some (AV d k = true ∧ (es.all fun e => AV d e.1) = true, .v undef, H.set m (.map (Fw k y es)))
    | _ => none
  | _, _, _ => none
def muA (P : Program) (u : Option TypeDesc) (H : A3) (x i y : IV) : Option (Prop × IV × A3) :=
  match u with
  | some (.map kt _) => muB (P.underlying kt) H x i y
  | _ => none
def muC (d : TypeDesc) (H : A3) (k : Value) (m : Nat) (y : IV) (o : Option HO) : Option (Prop × IV × A3) :=
  match o with
  | some (.map es) => some (AV d k = true ∧ (es.all fun e => AV d e.1) = true, .v undef, H.set m (.map (Fw k y es)))
  | _ => none
@[go_sem] theorem Z5 {t : TypeId} {x i y : IV} : muX P H t x i y = muA P (P.underlying t) H x i y := rfl
@[go_sem] theorem Yn {kt et : TypeId} {x i y : IV} : muA P (some (.map kt et)) H x i y = muB (P.underlying kt) H x i y := rfl
@[go_sem] theorem Z6 {d : TypeDesc} {m : Nat} {k : Value} {y : IV} : muB (some d) H (.mp m) (.v k) y = muC d H k m y (H.obj m) := rfl
@[go_sem] theorem Yo {d : TypeDesc} {k : Value} {m : Nat} {y : IV} {es : List (Value × IV)} : muC d H k m y (some (.map es)) = some (AV d k = true ∧ (es.all fun e => AV d e.1) = true, .v undef, H.set m (.map (Fw k y es))) := rfl
def dlB (d : Option TypeDesc) (H : A3) (x i : IV) : Option (Prop × IV × A3) :=
  match d, i, x with
  | some d, .v k, .mp m =>
    match H.obj m with
    | some (.map es) => some (AV d k = true ∧ (es.all fun e => AV d e.1) = true, .tu [], H.set m (.map (Gi k es)))
    | _ => none
  | _, _, _ => none
def dlA (P : Program) (u : Option TypeDesc) (H : A3) (x i : IV) : Option (Prop × IV × A3) :=
  match u with
  | some (.map kt _) => dlB (P.underlying kt) H x i
  | _ => none
def dlC (d : TypeDesc) (H : A3) (k : Value) (m : Nat) (o : Option HO) : Option (Prop × IV × A3) :=
  match o with
  | some (.map es) => some (AV d k = true ∧ (es.all fun e => AV d e.1) = true, .tu [], H.set m (.map (Gi k es)))
  | _ => none
@[go_sem] theorem Z7 {t : TypeId} {x i : IV} : dlX P H t x i = dlA P (P.underlying t) H x i := rfl
@[go_sem] theorem Yp {kt et : TypeId} {x i : IV} : dlA P (some (.map kt et)) H x i = dlB (P.underlying kt) H x i := rfl
@[go_sem] theorem Z8 {d : TypeDesc} {m : Nat} {k : Value} : dlB (some d) H (.mp m) (.v k) = dlC d H k m (H.obj m) := rfl
@[go_sem] theorem Yq {d : TypeDesc} {k : Value} {m : Nat} {es : List (Value × IV)} : dlC d H k m (some (.map es)) = some (AV d k = true ∧ (es.all fun e => AV d e.1) = true, .tu [], H.set m (.map (Gi k es))) := rfl
def lnB (u : Option TypeDesc) (H : A3) (x : IV) : Option (Prop × IV) :=
  match u, x with
  | some (.map _ _), .mp m =>
    match H.obj m with
    | some (.map es) => some (True, .v (.int .i64 es.length))
    | _ => none
  | _, _ => none
def lnC (o : Option HO) : Option (Prop × IV) :=
  match o with
  | some (.map es) => some (True, .v (.int .i64 es.length))
  | _ => none
@[go_sem] theorem Z9 {t : TypeId} {x : IV} : lnX P H t x = lnB (P.underlying t) H x := rfl
@[go_sem] theorem Za {a b : TypeId} {m : Nat} : lnB (some (.map a b)) H (.mp m) = lnC (H.obj m) := rfl
@[go_sem] theorem Yr {es : List (Value × IV)} : lnC (some (.map es)) = some (True, .v (.int .i64 es.length)) := rfl
@[go_sem] theorem Ys {a b : TypeId} {m : Nat} : Fx (some (.map a b)) (.mp m) = none := rfl
end Go.Idl
namespace Go.Idl
open Go Go.RowKit
variable {P : Program} {N : Nat} {tm : Tm} {H : A3} {Q : Exit → Tm → A3 → Prop}
theorem Sim.Ui {w : World} {g : Gs} (s : Sim w g H) (k : Nat) : Sim w (g.to (H.del k)) (H.del k) ∧ AO w g w (g.to (H.del k)) := (Hr H s.wf k).sim s (.refl w g) s
theorem O4 (k : Nat) : Ld (H.del k) H := fun i o h => by
  simp only [A3.del] at h
  split at h
  · cases h
  · exact h
theorem Sim.Uj {w : World} {g : Gs} (s : Sim w g H) {k sz n : Nat} {es : List (List IV)} (hk : H.obj k = some (.row sz es)) (hn : es.length = n) {x : Value} (hx : R w g x (.os k n)) : R w (g.to (H.del k)) x (.sl sz es) := by
 subst hn; refine (Fz.os k es.length sz es es (by simp [A3.del]) hk rfl rfl (fun j e e' h1 h2 => by rw [h1] at h2; cases h2; rfl) fun j e e' h1 h2 q c c' h3 h4 => ?_).sound s (O4 k) hx; rw [h1] at h2; cases h2; rw [h3] at h4; cases h4; refine .wk _ _ (fun _ _ _ h => h) ?_; have hnb := (s.obj k _ hk).nb; rw [s.nx] at hnb; exact hnb e (List.mem_of_getElem? h1) c (List.mem_of_getElem? h3)
theorem Sim.Tq {w : World} {g : Gs} (s : Sim w g H) (k : Nat) {x : Value} {i : IV} (hx : R w g x i) : R w (g.to (H.del k)) x i := hx.mono (s.Ui k).2
inductive FzK (H : A3) (k : Nat) : IV → IV → Prop
  | same (a : IV) : FzK H k a a
  | row (sz n : Nat) (es : List (List IV)) (hk : H.obj k = some (.row sz es)) (hn : es.length = n) : FzK H k (.os k n) (.sl sz es)
inductive GF (H : A3) (k : Nat) : List IV → List IV → Prop
  | nil : GF H k [] []
  | cons {a b : IV} {l m : List IV} (h : FzK H k a b) (t : GF H k l m) : GF H k (a :: l) (b :: m)
theorem FzK.sound {w : World} {g : Gs} (s : Sim w g H) {k : Nat} {a b : IV} (h : FzK H k a b) {x : Value} (hx : R w g x a) : R w (g.to (H.del k)) x b := by
 cases h with
 | same => exact s.Tq k hx
 | row sz n es hk hn => exact s.Uj hk hn hx
theorem GF.len {k : Nat} {l m : List IV} (h : GF H k l m) : m.length = l.length := by
 induction h with
 | nil => rfl
 | cons _ _ ih => simp [ih]
theorem GF.get {k : Nat} {l m : List IV} (h : GF H k l m) : ∀ (j : Nat) (a b : IV), l[j]? = some a → m[j]? = some b → FzK H k a b := by
 induction h with
 | nil => intro j a b h; simp at h
 | cons h _ ih =>
  intro j a b h1 h2; cases j with
  | zero => simp at h1 h2; subst h1; subst h2; exact h
  | succ j => exact ih j a b (by simpa using h1) (by simpa using h2)
theorem GF.refl {k : Nat} : ∀ (l : List IV), GF H k l l
  | [] => .nil
  | _ :: l => .cons (.same _) (GF.refl l)
theorem A6.fz {f : FuncId} {k : Nat} {args args' : List IV} {K : AB → A3 → Prop} (ha : GF H k args args') (h : A6 P f args' (H.del k) K) : A6 P f args H K := by
 refine ⟨h.body, fun w g vs s rl => ?_⟩; obtain ⟨s1, m1⟩ := s.Ui k
 have rl' : RL w (g.to (H.del k)) vs args' := ⟨rl.1.trans ha.len.symm, fun j x c hx hc => by
   have hlt : j < args.length := by rw [← ha.len]; exact (List.getElem?_eq_some_iff.1 hc).1
   exact (ha.get j _ c (List.getElem?_eq_getElem hlt) hc).sound s (rl.2 j x _ hx (List.getElem?_eq_getElem hlt))⟩
 exact (h.run w _ vs s1 rl').mono fun e w' ⟨ie, g', H', m, s', r, q⟩ => ⟨ie, g', H', m1.tr m s s1, s', r, q⟩
theorem Gh.fz {tm tm' : Tm} {k : Nat} (h : ∀ i, FzK H k (tm i) (tm' i)) : Gh tm H tm' (H.del k) := fun w g s => by
  obtain ⟨s1, m1⟩ := s.Ui k
  exact ⟨_, m1, s1, fun a r i hi => (h i).sound s (r i hi)⟩
theorem FzK.upd {k d : Nat} {tm : Tm} {x : IV} (h : FzK H k (tm d) x) : ∀ i, FzK H k (tm i) (upd tm d x i) := fun i => by
  unfold Idl.upd
  split
  · rename_i e; subst e; exact h
  · exact .same _
theorem Sim.Ll {w : World} {g : Gs} (s : Sim w g H) {k : Nat} {o o' : HO} (hk : H.obj k = some o) (hsh : o'.sh = o.sh) (hr : Dc w g (g.mu k) o → Dc w g (g.mu k) o') : Sim w g (H.set k o') where
  nx := s.nx
  sh := fun i => by
    rw [s.sh]
    simp only [A3.sh, A3.set]
    split
    · rename_i e; subst e; rw [hk, Option.map_some, Option.map_some, hsh]
    · rfl
  lt := fun i hi => by
    simp only [A3.set] at hi ⊢
    split at hi
    · rename_i e; subst e; exact s.lt i (by rw [hk]; rfl)
    · exact s.lt i hi
  bk := s.bk
  inj := s.inj
  obj := fun i o1 h1 => by
    simp only [A3.set] at h1
    split at h1
    · rename_i e
      subst e
      cases h1
      exact hr (s.obj i _ hk)
    · exact s.obj i o1 h1
  old := s.old
  snap := s.snap
theorem Gh.Ll {k : Nat} {o o' : HO} (hk : H.obj k = some o) (hsh : o'.sh = o.sh) (hr : ∀ w g x, Dc w g x o → Dc w g x o') : Gh tm H tm (H.set k o') := fun w g s =>
  ⟨g, .refl w g, s.Ll hk hsh (hr w g _), fun _ r => r⟩
theorem Av.gh {o : Oper} {K : IV → A3 → Prop} {Qp : List PanicEntry → A3 → Prop} {tm' : Tm} {H' : A3} (hg : Gh tm H tm' H') (hd : Bool) (h : Av P N o tm' H' K Qp) : Av P N o tm H K Qp := by
 refine ⟨h.nd, fun rr w g a s r hN => ?_⟩; obtain ⟨g1, m1, s1, r1⟩ := hg w g s; exact D8 (fun a' w' ⟨x, i, g', H', h1, h2, h3, h4, h5⟩ => ⟨x, i, g', H', h1, m1.tr h2 s s1, h3, h4, h5⟩)
  (fun e a' w' ⟨ch, g', H', h1, h2, h3, h4, h5⟩ => ⟨ch, g', H', h1, h2, m1.tr h3 s s1, h4, h5⟩) ⟨rr, rfl⟩ (h.run rr w g1 a s1 (r1 a r) hN)
inductive Rn (H J : A3) (ρ : Nat → Nat) (m : Nat) : IV → IV → Prop
  | same (i : IV) (h : NB m i) : Rn H J ρ m i i
  | any (i : IV) : Rn H J ρ m i .any
  | p (k off : Nat) (h : k < J.next) : Rn H J ρ m (.p (ρ k) off) (.p k off)
  | mp (k : Nat) (h : k < J.next) : Rn H J ρ m (.mp (ρ k)) (.mp k)
  | os (k n : Nat) (h : k < J.next) : Rn H J ρ m (.os (ρ k) n) (.os k n)
  | bs (k off n : Nat) (h : k < J.next) : Rn H J ρ m (.bs (ρ k) off n) (.bs k off n)
  | ag (cs cs' : List IV) (hl : cs'.length = cs.length) (h : ∀ (j : Nat) (c c' : IV), cs[j]? = some c → cs'[j]? = some c' → Rn H J ρ m c c') : Rn H J ρ m (.ag cs) (.ag cs')
  | tu (cs cs' : List IV) (hl : cs'.length = cs.length) (h : ∀ (j : Nat) (c c' : IV), cs[j]? = some c → cs'[j]? = some c' → Rn H J ρ m c c') : Rn H J ρ m (.tu cs) (.tu cs')
  | fn (f : Fn) (a b b' : List IV) (ha : a = []) (hl' : b'.length = b.length) (h' : ∀ (j : Nat) (c c' : IV), b[j]? = some c → b'[j]? = some c' → Rn H J ρ m c c') : Rn H J ρ m (.fn f a b) (.fn f a b')
inductive RnL (H J : A3) (ρ : Nat → Nat) (m : Nat) : List IV → List IV → Prop
  | nil : RnL H J ρ m [] []
  | cons {a b : IV} {l k : List IV} (h : Rn H J ρ m a b) (t : RnL H J ρ m l k) : RnL H J ρ m (a :: l) (b :: k)
theorem RnL.len {J : A3} {ρ : Nat → Nat} {m : Nat} {l k : List IV} (h : RnL H J ρ m l k) : k.length = l.length := by
 induction h with
 | nil => rfl
 | cons _ _ ih => simp [ih]
theorem RnL.get {J : A3} {ρ : Nat → Nat} {m : Nat} {l k : List IV} (h : RnL H J ρ m l k) : ∀ (j : Nat) (a b : IV), l[j]? = some a → k[j]? = some b → Rn H J ρ m a b := by
 induction h with
 | nil => intro j a b h; simp at h
 | cons h _ ih =>
  intro j a b h1 h2; cases j with
  | zero => simp at h1 h2; subst h1; subst h2; exact h
  | succ j => exact ih j a b (by simpa using h1) (by simpa using h2)
theorem RnL.same {J : A3} {ρ : Nat → Nat} {m : Nat} : ∀ {l : List IV}, (∀ c, c ∈ l → NB m c) → RnL H J ρ m l l
  | [], _ => .nil
  | _ :: _, h => .cons (.same _ (h _ (by simp))) (RnL.same fun c hc => h c (by simp [hc]))
inductive RnO (H J : A3) (ρ : Nat → Nat) (m : Nat) : HO → HO → Prop
  | cells (cs cs' : List IV) (h : RnL H J ρ m cs cs') : RnO H J ρ m (.cells cs) (.cells cs')
  | same (o : HO) (h : NBo m o) : RnO H J ρ m o o
  | ty (t : TypeId) (o o' : HO) (h : RnO H J ρ m o o') : RnO H J ρ m (.ty t o) (.ty t o')
theorem RnO.sh {J : A3} {ρ : Nat → Nat} {m : Nat} {o o' : HO} (h : RnO H J ρ m o o') : o'.sh = o.sh := by
 induction h with
 | cells => rfl
 | same => rfl
 | ty t o o' h ih => exact ih
structure GG (H0 H J : A3) (ρ : Nat → Nat) : Prop where
  lo : H0.next ≤ J.next
  id : ∀ k, k < H0.next → ρ k = k
  le : H0.next ≤ H.next
  lt : ∀ k o, J.obj k = some o → k < J.next
  hi : ∀ k, k < J.next → ρ k < H.next
  inj : ∀ k k', (J.obj k).isSome = true → (J.obj k').isSome = true → ρ k = ρ k' → k = k'
  obj : ∀ k o', J.obj k = some o' → (H0.obj k = some o' ∧ H.obj (ρ k) = some o') ∨ ∃ o, H.obj (ρ k) = some o ∧ RnO H J ρ H0.next o o'
  sn : J.sn = H0.sn
def Lm (g : Gs) (J : A3) (ρ : Nat → Nat) : Gs := { oth := g.oth, mu := fun k => g.mu (ρ k), sh := J.sh, nx := J.next }
section
variable {H0 J : A3} {ρ : Nat → Nat} {w : World} {g : Gs}
theorem GG.shs (h : GG H0 H J ρ) (s : Sim w g H) : ∀ k q, J.sh k = some q → g.sh (ρ k) = some q := by
 intro k q hq; simp only [A3.sh, Option.map_eq_some_iff] at hq; obtain ⟨o', h1, rfl⟩ := hq; rcases h.obj k o' h1 with ⟨_, h2⟩ | ⟨o, h2, h3⟩
 ·rw [s.sh, A3.sh, h2, Option.map_some]
 ·rw [s.sh, A3.sh, h2, Option.map_some, h3.sh]
theorem GG.ow (h : GG H0 H J ρ) (s : Sim w g H) {b : Nat} (hb : (Lm g J ρ).ow b) : g.ow b := by
 rcases hb with hb | ⟨k, h1, h2⟩
 ·exact .inl hb
 ·obtain ⟨q, hq⟩ := Option.isSome_iff_exists.1 h1; exact .inr ⟨ρ k, by rw [h.shs s k q hq]; rfl, h2⟩
theorem GG.KM (h : GG H0 H J ρ) (s : Sim w g H) {x : Value} {i : IV} (hx : R w g x i) (hn : NB H0.next i) : R w (Lm g J ρ) x i := by
 have low : ∀ k, k < H0.next → k < J.next := fun k hk => Nat.lt_of_lt_of_le hk h.lo; have shl : ∀ k q, k < H0.next → (Lm g J ρ).sh k = some q → g.sh k = some q := fun k q hk hq => by
  have := h.shs s k q hq
  rwa [h.id k hk] at this
 have mul : ∀ k, k < H0.next → (Lm g J ρ).mu k = g.mu k := fun k hk => by simp [Lm, h.id k hk]
 induction hx with
 | v x => exact .v x
 | any x => exact .any x
 | sl0 a cap sz => exact .sl0 a cap sz
 | blk b xs el f x hb h1 => exact .blk b xs el f x (fun e => hb (h.ow s e)) h1
 | sl b off cap sz es cv hb hlt hlen hcap hsz hc ho _ ih =>
  exact .sl b off cap sz es cv (fun e => hb (h.ow s e)) hlt hlen hcap hsz hc ho fun i e j c h1 h2 => ih i e j c h1 h2 ((Tn.1 hn) e (List.mem_of_getElem? h1) c (List.mem_of_getElem? h2))
 | cp b off cs cv hb hlt hc ho _ ih => exact .cp b off cs cv (fun e => hb (h.ow s e)) hlt hc ho fun j c h1 => ih j c h1 (by cases hn with | cp _ q => exact q c (List.mem_of_getElem? h1))
 | ag xs cs hl ho _ ih => exact .ag xs cs hl ho fun j x c h1 h2 => ih j x c h1 h2 ((X2.1 hn) c (List.mem_of_getElem? h2))
 | tu xs cs hl _ ih => exact .tu xs cs hl fun j x c h1 h2 => ih j x c h1 h2 ((X3.1 hn) c (List.mem_of_getElem? h2))
 | fn f xs ys fi ca hl hl' _ _ ih ih' => exact .fn f xs ys fi ca hl hl' (fun j x c h1 h2 => ih j x c h1 h2 ((To.1 hn).1 c (List.mem_of_getElem? h2))) fun j x c h1 h2 => ih' j x c h1 h2 ((To.1 hn).2 c (List.mem_of_getElem? h2))
 | ifc t x c _ ih => exact .ifc t x c (ih (by cases hn with | ifc _ _ q => exact q))
 | p k off x hk hx hh =>
  have hk' := Z0.1 hn; exact .p k off x (low k hk') hx fun q hq e => by rw [mul k hk']; exact hh q (shl k q hk' hq) e
 | mp k x hk hx hh =>
  have hk' := X6.1 hn; exact .mp k x (low k hk') hx fun q hq e => by rw [mul k hk']; exact hh q (shl k q hk' hq) e
 | os k n x hk hh hx =>
  have hk' := X4.1 hn; exact .os k n x (low k hk') (fun m hm => by rw [mul k hk']; exact hh m (shl k _ hk' hm)) hx
 | pr k n off x hk hx hh =>
  have hk' : k < H0.next := by cases hn with | pr _ _ _ q => exact q
  exact .pr k n off x (low k hk') hx fun m hm => by rw [mul k hk']; exact hh m (shl k _ hk' hm)
 | bs k off n x hk hx hh =>
  have hk' := X5.1 hn; exact .bs k off n x (low k hk') hx fun q hq e => by rw [mul k hk']; exact hh q (shl k q hk' hq) e
theorem Rn.sound (h : GG H0 H J ρ) (s : Sim w g H) {i i' : IV} (r : Rn H J ρ H0.next i i') : ∀ {x : Value}, R w g x i → R w (Lm g J ρ) x i' := by
 induction r with
 | same i hn => exact fun hx => h.KM s hx hn
 | any i => exact fun _ => .any _
 | p k off hk =>
  intro x hx; obtain ⟨_, h1, h2⟩ := hx.KD; exact .p k off x hk h1 fun q hq e => h2 q (h.shs s k q hq) e
 | mp k hk =>
  intro x hx; cases hx with
  | mp _ _ _ h1 h2 => exact .mp k x hk h1 fun q hq e => h2 q (h.shs s k q hq) e
 | os k n hk =>
  intro x hx; cases hx with
  | os _ _ _ _ h1 h2 => exact .os k n x hk (fun m hm => h1 m (h.shs s k _ hm)) h2
 | bs k off n hk =>
  intro x hx; cases hx with
  | bs _ _ _ _ _ h1 h2 => exact .bs k off n x hk h1 fun q hq e => h2 q (h.shs s k q hq) e
 | ag cs cs' hl _ ih =>
  intro x hx; cases hx with
  | ag xs _ hl2 ho hr =>
   refine .ag xs cs' (by rw [hl2, hl]) ho fun j y c' h1 h2 => ?_; obtain ⟨c, hc⟩ := C0 hl h2; exact ih j c c' hc h2 (hr j y c h1 hc)
 | tu cs cs' hl _ ih =>
  intro x hx; cases hx with
  | tu xs _ hl2 hr =>
   refine .tu xs cs' (by rw [hl2, hl]) fun j y c' h1 h2 => ?_; obtain ⟨c, hc⟩ := C0 hl h2; exact ih j c c' hc h2 (hr j y c h1 hc)
 | fn f a b b' ha hl' _ ih =>
  subst ha; intro x hx; cases hx with
  | fn _ xs ys _ _ hl2 hl3 hr hr' =>
   refine .fn f xs ys [] b' hl2 (by rw [hl3, hl']) (fun j y c h1 h2 => by simp at h2) fun j y c' h1 h2 => ?_; obtain ⟨c, hc⟩ := C0 hl' h2; exact ih j c c' hc h2 (hr' j y c h1 hc)
theorem RnO.sound (h : GG H0 H J ρ) (s : Sim w g H) {o o' : HO} (r : RnO H J ρ H0.next o o') {x : Value} (hx : Dc w g x o) : Dc w (Lm g J ρ) x o' := by
 induction r with
 | cells cs cs' hl =>
  obtain ⟨b, xs, el, f, h1, h2, h3, hc⟩ := hx; refine ⟨b, xs, el, f, h1, h2, h3, by rw [hl.len]; exact hc.1, fun j c' hj => ?_⟩; obtain ⟨c, hcj⟩ := C0 hl.len hj; obtain ⟨y, q1, q2, q3⟩ := hc.2 j c hcj; exact ⟨y, q1, q2, (hl.get j c c' hcj hj).sound h s q3⟩
 | same o hn =>
  induction o with
  | cells cs =>
   obtain ⟨b, xs, el, f, h1, h2, h3, hc⟩ := hx; exact ⟨b, xs, el, f, h1, h2, h3, hc.1, fun j c hj => let ⟨y, q1, q2, q3⟩ := hc.2 j c hj; ⟨y, q1, q2, h.KM s q3 (hn c (List.mem_of_getElem? hj))⟩⟩
  | row sz es =>
   obtain ⟨a, cap, h1, h2, h3, h4, h5, h6⟩ := hx; refine ⟨a, cap, h1, h2, h3, h4, h5, ?_⟩; rcases h6 with h6 | ⟨b, xs, el, f, h7, h8, h9, h10, hc⟩
   ·exact .inl h6
   ·refine .inr ⟨b, xs, el, f, h7, h8, h9, h10, hc.1, fun j c hj => let ⟨y, q1, q2, q3⟩ := hc.2 j c hj; ⟨y, q1, q2, h.KM s q3 ?_⟩⟩; obtain ⟨e, he, hce⟩ := List.mem_flatten.1 (List.mem_of_getElem? hj); exact hn e he c hce
  | obj o => exact hx
  | map es =>
   obtain ⟨b, ents, clock, h1, h2, h3⟩ := hx; exact ⟨b, ents, clock, h1, h2, h3.imp fun y e he hy => h.KM s hy (hn e he)⟩
  | Es bs c es =>
   obtain ⟨b, ents, h1, h2, h3, h4⟩ := hx; exact ⟨b, ents, h1, h2, h3.imp fun y e he hy => h.KM s hy (hn e he), h4⟩
  | it km since seen c =>
   obtain ⟨b, bm, h1, h2, h3⟩ := hx; exact ⟨b, bm, h1, h2, h.KM s h3 (.mp _ hn)⟩
  | ty t o ih => exact ⟨ih hn hx.1, hx.2⟩
 | ty t o o' hr ih =>
  refine ⟨ih hx.1, fun b hb => ?_⟩; obtain ⟨xs, h1, h2⟩ := hx.2 b hb; refine ⟨xs, h1, fun cs e => ?_⟩; subst e; cases hr with
  | cells cs0 _ hl => rw [h2 cs0 rfl, hl.len]
  | same => exact h2 cs rfl
theorem GG.Zb (h : GG H0 H J ρ) {r r' : IV} (hr : Rn H J ρ H0.next r r') : WE H0 H r J r' := by
 intro w0 g0 w g s0 m s; have hm : AO w0 g0 w (Lm g J ρ) := by
  refine ⟨m.size, m.os, m.tape, m.output, m.keep, fun b hb ho => m.own b hb (h.ow s ho), m.oth, by show g0.nx ≤ J.next; rw [s0.nx]; exact h.lo, ?_, ?_⟩
  ·intro k hk hf; have hk' : k < H0.next := by rw [← s0.nx]; exact hk
   have h1 := h.shs s k _ hf; rw [h.id k hk'] at h1; have h2 := m.fx k hk h1; exact ⟨h2.1, by show g.mu (ρ k) = _; rw [h.id k hk']; exact h2.2⟩
  ·intro k m' hk hf; have hk' : k < H0.next := by rw [← s0.nx]; exact hk
   have h1 := h.shs s k _ hf; rw [h.id k hk'] at h1; obtain ⟨m1, h2, h3, h4⟩ := m.row k m' hk h1; exact ⟨m1, h2, h3, fun e => by show g.mu (ρ k) = _; rw [h.id k hk']; exact h4 e⟩
 refine ⟨Lm g J ρ, hm, ⟨rfl, fun _ => rfl, ?_, ?_, ?_, ?_, s.old, fun p hp i hi => (s0.snap p (by rw [← h.sn]; exact hp) i hi).mono hm⟩, fun x hx => hr.sound h s hx⟩
 ·intro k hk; obtain ⟨o, ho⟩ := Option.isSome_iff_exists.1 hk; exact h.lt k o ho
 ·intro k b h1 h2; obtain ⟨q, hq⟩ := Option.isSome_iff_exists.1 h1; exact s.bk (ρ k) b (by rw [h.shs s k q hq]; rfl) h2
 ·intro k k' b h1 h2 h3 h4; obtain ⟨q, hq⟩ := Option.isSome_iff_exists.1 h1; obtain ⟨q', hq'⟩ := Option.isSome_iff_exists.1 h2; have e := s.inj (ρ k) (ρ k') b (by rw [h.shs s k q hq]; rfl) (by rw [h.shs s k' q' hq']; rfl) h3 h4; refine h.inj k k' ?_ ?_ e
  ·have hq : (J.obj k).map HO.sh = some q := hq; obtain ⟨o, ho, _⟩ := Option.map_eq_some_iff.1 hq; rw [ho]; rfl
  ·have hq' : (J.obj k').map HO.sh = some q' := hq'; obtain ⟨o, ho, _⟩ := Option.map_eq_some_iff.1 hq'; rw [ho]; rfl
 ·intro k o' ho'; rcases h.obj k o' ho' with ⟨h0, h1⟩ | ⟨o, h1, h2⟩
  ·have hn := (s0.obj k o' h0).nb; rw [s0.nx] at hn; exact (RnO.same o' hn).sound h s (s.obj (ρ k) o' h1)
  ·exact h2.sound h s (s.obj (ρ k) o h1)
end
end Go.Idl
namespace Go.Idl
open Go Go.RowKit
variable {P : Program} {N : Nat} {tm : Tm} {H : A3}
theorem Bp.put {w : World} {g : Gs} {B r : Nat} : ∀ (l : List Deferred), (∀ d', d' ∈ l → d'.target ≠ .collected r) → Bp none B w g l → Bp none B (w.putObj r (.deferred none)) g l
  | [], _, _ => fun _ e => by cases e
  | e :: l, hne, ⟨⟨q, q1, q2, q3, q4, q5, q6⟩, q7⟩ => by
    refine ⟨⟨q, q1, q2, by simpa using q3, ?_, q5, q6⟩, Bp.put l (fun d' hd => hne d' (List.mem_cons_of_mem _ hd)) q7⟩
    rw [← q4]
    refine World.putObj_heap_other fun e' => ?_
    subst e'
    exact hne e (by simp) (by rw [q1])
theorem Agr.tr {w w1 w2 : World} {g : Gs} (h : Agr w w1 g) (k : Agr w1 w2 g) : Agr w w2 g := by
 refine ⟨by rw [k.size, h.size], k.os.trans h.os, k.tape.trans h.tape, k.output.trans h.output, fun b xs el f hb => ?_, fun b hb => (k.own b hb).trans (h.own b hb)⟩; have e1 := h.cells b xs el f hb; exact (k.cells b xs el f (e1.trans hb)).trans e1
theorem GH {fn : Func} {tmps : Array Value} {R' : Ending → World → Prop} {u : FrameMode} {B : Nat} {w0 : World} (hB : w0.heap.size ≤ B) (hu : u ≠ .run) (D : List Deferred) : ∀ (ms : List Deferred) {w : World} {g g0 : Gs},
    Bp none B w g ms → AO w0 g0 w g → (∀ w', Agr w w' g → (∀ b, b < B → w'.heap[b]? = w.heap[b]?) → AO w0 g0 w' g → LeavesInM (FR none) 0 P fn tmps R' D u w') → LeavesInM (FR none) 0 P fn tmps R' (ms ++ D) u w
  | [], w, g, g0, _, m0, k => k w (.refl w g) (fun _ _ => rfl) m0
  | d :: ds, w, g, g0, ⟨⟨r, h1, h2, h3, h4, h5, h6⟩, hm⟩, m0, k => by
    refine ⟨hu, .inl ⟨r, _, by rw [h1], run_takeDeferred h4, ?_⟩⟩
    have hag : Agr w (w.putObj r (.deferred none)) g := by
      refine ⟨by simp, rfl, rfl, rfl, fun b xs el f hb => ?_, fun b hb => ?_⟩
      · exact World.putObj_heap_other (fun e => by subst e; rw [h4] at hb; cases hb)
      · exact World.putObj_heap_other (fun e => by subst e; exact h5 (.inr hb))
    have hm0 : AO w0 g0 (w.putObj r (.deferred none)) g := by
      refine ⟨by simpa using m0.size, m0.os, m0.tape, m0.output, fun b hb hn => ?_, m0.own, m0.oth, m0.nx, m0.fx, m0.row⟩
      rw [← m0.keep b hb hn]
      exact World.putObj_heap_other (by omega)
    refine GH hB hu D ds (hm.put ds h6) hm0 fun w' a' low m' => k w' (hag.tr a') (fun b hb => ?_) m'
    rw [low b hb]
    exact World.putObj_heap_other (by omega)
structure GD where
  f : FuncId
  cap : List IV
  args : List IV
def DR (w : World) (g : Gs) (d : Deferred) (q : GD) : Prop := ∃ cap, d.target = .fn (.func q.f) cap ∧ RL w g cap q.cap ∧ RL w g d.args q.args
theorem DR.mono {w w' : World} {g g' : Gs} (m : AO w g w' g') {d : Deferred} {q : GD} : DR w g d q → DR w' g' d q := fun ⟨c, h1, h2, h3⟩ => ⟨c, h1, h2.mono m, h3.mono m⟩
theorem RL.agr {w w' : World} {g : Gs} (h : Agr w w' g) {xs : Array Value} {is : List IV} (k : RL w g xs is) : RL w' g xs is := ⟨k.1, fun j x c h1 h2 => (k.2 j x c h1 h2).agr h⟩
theorem DR.agr {w w' : World} {g : Gs} (m : Agr w w' g) {d : Deferred} {q : GD} : DR w g d q → DR w' g d q := fun ⟨c, h1, h2, h3⟩ => ⟨c, h1, h2.agr m, h3.agr m⟩
def DM (B0 : Nat) (w : World) (g : Gs) : Nat → List GD → List Deferred → Prop
  | B, [], ds => B0 ≤ B ∧ Bp none B w g ds
  | B, q :: dl, ds => B0 ≤ B ∧ ∃ ms d rest B', ds = ms ++ d :: rest ∧ Bp none B w g ms ∧ DR w g d q ∧ (∀ d', d' ∈ rest → ∀ r, d'.target = .collected r → r < B) ∧ DM B0 w g B' dl rest
theorem DM.mono {B0 : Nat} {w w' : World} {g g' : Gs} (m : AO w g w' g') : ∀ {dl : List GD} {B : Nat} {ds : List Deferred}, DM B0 w g B dl ds → DM B0 w' g' B dl ds
  | [], _, _, ⟨h0, h⟩ => ⟨h0, h.mono m⟩
  | _ :: _, _, _, ⟨h0, ms, d, rest, B', h1, h2, h3, h4, h5⟩ => ⟨h0, ms, d, rest, B', h1, h2.mono m, h3.mono m, h4, h5.mono m⟩
theorem Bp.low {w w' : World} {g : Gs} {B B1 : Nat} (a : Agr w w' g) (low : ∀ b, b < B1 → w'.heap[b]? = w.heap[b]?) : ∀ {ds : List Deferred}, (∀ d', d' ∈ ds → ∀ r, d'.target = .collected r → r < B1) → Bp none B w g ds → Bp none B w' g ds
  | [], _, _ => fun _ e => by cases e
  | d :: ds, hl, ⟨⟨q, q1, q2, q3, q4, q5, q6⟩, q7⟩ =>
    ⟨⟨q, q1, q2, by rw [a.size]; exact q3, (low q (hl d (by simp) q (by rw [q1]))).trans q4, q5, q6⟩, Bp.low a low (fun d' hd => hl d' (List.mem_cons_of_mem _ hd)) q7⟩
theorem DM.low {B0 : Nat} {w w' : World} {g : Gs} {B1 : Nat} (a : Agr w w' g) (low : ∀ b, b < B1 → w'.heap[b]? = w.heap[b]?) : ∀ {dl : List GD} {B : Nat} {ds : List Deferred}, (∀ d', d' ∈ ds → ∀ r, d'.target = .collected r → r < B1) → DM B0 w g B dl ds → DM B0 w' g B dl ds
  | [], _, _, hl, ⟨h0, h⟩ => ⟨h0, h.low a low hl⟩
  | _ :: _, _, _, hl, ⟨h0, ms, d, rest, B', h1, h2, h3, h4, h5⟩ => by
    subst h1
    exact ⟨h0, ms, d, rest, B', rfl, h2.low a low (fun d' hd => hl d' (by simp [hd])), h3.agr a, h4, h5.low a low (fun d' hd => hl d' (by simp [hd]))⟩
theorem Bp.lt' {B : Nat} {w : World} {g : Gs} : ∀ {ds : List Deferred}, Bp none B w g ds → ∀ d, d ∈ ds → ∀ r, d.target = .collected r → r < w.heap.size
  | [], _, _, hd, _, _ => by cases hd
  | d :: ds, ⟨⟨q, q1, q2, q3, q4, q5, q6⟩, q7⟩, e, he, r, hr => by
    rcases List.mem_cons.1 he with e1 | e1
    · subst e1
      rw [q1] at hr
      simp only [Target.collected.injEq] at hr
      omega
    · exact Bp.lt' q7 e e1 r hr
theorem DM.lt {B0 : Nat} {w : World} {g : Gs} : ∀ {dl : List GD} {B : Nat} {ds : List Deferred}, B ≤ w.heap.size → DM B0 w g B dl ds → ∀ d, d ∈ ds → ∀ r, d.target = .collected r → r < w.heap.size
  | [], _, _, _, ⟨_, h⟩, d, hd, r, hr => h.lt' d hd r hr
  | _ :: _, _, _, hB, ⟨h0, ms, d, rest, B', h1, h2, h3, h4, h5⟩, e, he, r, hr => by
    subst h1
    rcases List.mem_append.1 he with he | he
    · exact h2.lt' e he r hr
    · rcases List.mem_cons.1 he with he | he
      · subst he
        obtain ⟨c, q, _⟩ := h3
        rw [q] at hr; cases hr
      · exact Nat.lt_of_lt_of_le (h4 e he r hr) hB
structure Bi (P : Program) (f : FuncId) (args : List IV) (u : FrameMode) (H : A3) (Q : AB → FrameMode → A3 → Prop) : Prop where
  body : BQ P f = true
  run : ∀ (w : World) (g : Gs) (vs : Array Value), Sim w g H → RL w g vs args →
    CallsDIn (FR none) 0 P f vs u w fun e u' w' => ∃ ie g' H', AO w g w' g' ∧ Sim w' g' H' ∧ RE w' g' e ie ∧ Q ie u' H'
theorem Bi.mono {f : FuncId} {args : List IV} {u : FrameMode} {Q Q' : AB → FrameMode → A3 → Prop} (h : Bi P f args u H Q) (hq : ∀ e u H', Q e u H' → Q' e u H') : Bi P f args u H Q' :=
  ⟨h.body, fun w g vs s r => (h.run w g vs s r).mono fun e u' w' ⟨ie, g', H', h1, h2, h3, h4⟩ => ⟨ie, g', H', h1, h2, h3, hq _ _ _ h4⟩⟩
def lvQ (K : FrameMode → A3 → Prop) : AB → FrameMode → A3 → Prop
  | .ret _, u, H => K (settle u) H
  | .pan ch, u, H => K (raised u ch) H
def LvD (P : Program) (rs : List ResultVar) (H0 : A3) (Q : AB → A3 → Prop) (tm : Tm) : List GD → FrameMode → A3 → Prop
  | [], .returning, H => Le P rs H0 Q tm H
  | [], .panicking ch, H => (∃ J, Dg H0 H J ∧ Q (.pan ch) J) ∨ Q (.pan ch) H
  | [], .run, _ => False
  | q :: dl, u, H => u ≠ .run ∧ Bi P q.f (q.args ++ q.cap) u H (lvQ (LvD P rs H0 Q tm dl))
theorem LvD.ne {rs : List ResultVar} {H0 : A3} {Q : AB → A3 → Prop} {dl : List GD} {u : FrameMode} (h : LvD P rs H0 Q tm dl u H) : u ≠ .run := by
 cases dl with
 | nil =>
  cases u with
  | run => exact h.elim
  | _ => simp
 | cons q dl => exact h.1
theorem FF {fn : Func} {H0 : A3} {Q : AB → A3 → Prop} {w0 : World} {g0 : Gs} (s0 : Sim w0 g0 H0) {tmps : Array Value} (hrn : ∀ r, r ∈ fn.results.toList → rvN tmps.size r = true) :
    ∀ (dl : List GD) {B : Nat} {ds : List Deferred} {u : FrameMode} {w : World} {g : Gs} {H : A3}, DM w0.heap.size w g B dl ds → AO w0 g0 w g → Sim w g H → (∀ i, i < tmps.size → R w g (tmps.getD i undef) (tm i)) →
      LvD P fn.results.toList H0 Q tm dl u H → LeavesInM (FR none) 0 P fn tmps (fun e w' => ∃ ie g' H', AO w0 g0 w' g' ∧ Sim w' g' H' ∧ RE w' g' e ie ∧ Q ie H') ds u w
  | [], B, ds, u, w, g, H, ⟨hB, hm⟩, m, s, ra, hl => by
    have hu := hl.ne
    rw [← List.append_nil ds]
    refine GH hB hu [] ds hm m fun w'' ag _ m'' => ?_
    have s'' := s.agr ag
    cases u with
    | run => exact hl.elim
    | returning =>
      obtain ⟨st, is, h1, h2, h3⟩ := hl
      obtain ⟨v, q1, q2⟩ := FD (P := P) s'' (fun i hi => (ra i hi).agr ag) hrn h1 h2
      rcases h3 with ⟨r', J, h3, h4, h5⟩ | ⟨r', J, h3 | h3, h5⟩
      · obtain ⟨sJ, mJ⟩ := h3.sim s0 m'' s''
        exact ⟨v, q1, _, _, J, mJ, sJ, .ret _ _ (h4.sound s'' h3.sub q2), h5⟩
      · obtain ⟨g3, m3, s3, h4⟩ := h3 w'' g s''
        exact ⟨v, q1, _, _, J, m''.tr m3 s0 s'', s3, .ret _ _ (h4 _ q2), h5⟩
      · obtain ⟨g3, m3, s3, h4⟩ := h3 w0 g0 w'' g s0 m'' s''
        exact ⟨v, q1, _, _, J, m3, s3, .ret _ _ (h4 _ q2), h5⟩
    | panicking ch =>
      rcases hl with ⟨J, h3, h5⟩ | h5
      · obtain ⟨sJ, mJ⟩ := h3.sim s0 m'' s''
        exact ⟨_, _, J, mJ, sJ, .pan _, h5⟩
      · exact ⟨_, _, H, m'', s'', .pan _, h5⟩
  | q :: dl, B, ds, u, w, g, H, ⟨hB, ms, d, rest, B', h1, h2, h3, h4, h5⟩, m, s, ra, hl => by
    subst h1
    obtain ⟨hu, hcall⟩ := hl
    refine GH hB hu (d :: rest) ms h2 m fun w'' ag low m'' => ?_
    have s'' := s.agr ag
    obtain ⟨cap, t1, t2, t3⟩ := h3.agr ag
    refine ⟨hu, .inr ⟨fun hd => by simp [FR] at hd, .func q.f, cap, q.f, d.args ++ cap, t1, ?_, fun _ _ => trivial, ?_⟩⟩
    · rw [t1]
      simp [invoke, Hq hcall.body]
    · refine (hcall.run w'' g _ s'' (KI t3 t2)).mono ?_
      rintro e u' w' ⟨ie, g', H', m', s', hre, hq⟩
      have hd := (h5.low ag low h4).mono m'
      have ra' : ∀ i, i < tmps.size → R w' g' (tmps.getD i undef) (tm i) := fun i hi => ((ra i hi).agr ag).mono m'
      cases hre with
      | ret v i hr => exact FF s0 hrn dl hd (m''.tr m' s0 s'') s' ra' hq
      | pan ch => exact FF s0 hrn dl hd (m''.tr m' s0 s'') s' ra' hq
structure GI (P : Program) (N : Nat) (c : Code) (Q : Exit → Tm → A3 → List GD → Prop) (tm : Tm) (H : A3) (dl : List GD) : Prop where
  run : ∀ (B0 B : Nat) (w : World) (g : Gs) (a : Act), Sim w g H → RA w g a tm → a.tmps.size = N → B ≤ w.heap.size → DM B0 w g B dl a.defers →
    c.wpIn (FR none) 0 P (fun e a' w' => ∃ tm' g' H' dl' B', AO w g w' g' ∧ Sim w' g' H' ∧ RA w' g' a' tm' ∧ a'.tmps.size = N ∧ B' ≤ w'.heap.size ∧ DM B0 w' g' B' dl' a'.defers ∧ e ≠ .outgrown ∧ Q e tm' H' dl') a w
theorem GI.of {c : Code} {Q : Exit → Tm → A3 → List GD → Prop} {dl : List GD} (h : IWp P N c (fun e tm H => Q e tm H dl) tm H) : GI P N c Q tm H dl := by
 refine ⟨fun B0 B w g a s r hN hB hm => ?_⟩; cases dl with
 | nil =>
  obtain ⟨hB0, hm⟩ := hm; refine wpIn_mono (h.run none B [] w g a s r hN hB ⟨a.defers, by simp, hm⟩) ?_
  rintro e a' w' ⟨tm', g', H', m, s', r', n', ⟨ms, e1, e2⟩, ne, q⟩
  exact ⟨tm', g', H', [], B, m, s', r', n', Nat.le_trans hB m.size, ⟨hB0, by rw [e1, List.append_nil]; exact e2⟩, ne, q⟩
 | cons d0 dl =>
  obtain ⟨hB0, ms, d, rest, B', h1, h2, h3, h4, h5⟩ := hm; refine wpIn_mono (h.run none B (d :: rest) w g a s r hN hB ⟨ms, h1, h2⟩) ?_
  rintro e a' w' ⟨tm', g', H', m, s', r', n', ⟨ms', e1, e2⟩, ne, q⟩
  exact ⟨tm', g', H', d0 :: dl, B, m, s', r', n', Nat.le_trans hB m.size, ⟨hB0, ms', d, rest, B', e1, e2, h3.mono m, h4, h5.mono m⟩, ne, q⟩
def JN (K : Tm → A3 → List GD → Prop) (Q : Exit → Tm → A3 → List GD → Prop) : Exit → Tm → A3 → List GD → Prop
  | .normal, tm, H, dl => K tm H dl
  | .exit id, tm, H, dl => Q (.exit id) tm H dl
  | .goto l, tm, H, dl => Q (.goto l) tm H dl
  | .ret, tm, H, dl => Q .ret tm H dl
  | .panic ch, tm, H, dl => Q (.panic ch) tm H dl
  | .outgrown, tm, H, dl => Q .outgrown tm H dl
theorem Q0 {x y : Code} {Q : Exit → Tm → A3 → List GD → Prop} {dl : List GD} (h : GI P N x (JN (fun tm H dl => GI P N y Q tm H dl) Q) tm H dl) : GI P N (.seq x y) Q tm H dl := by
 refine ⟨fun B0 B w g a s r hN hB hm => wpIn_seq (wpIn_mono (h.run B0 B w g a s r hN hB hm) ?_)⟩
 rintro e a1 w1 ⟨tm1, g1, H1, dl1, B1, m1, s1, r1, n1, b1, k1, ne, q⟩
 cases e with
 | normal =>
  refine wpIn_mono (q.run B0 B1 w1 g1 a1 s1 r1 n1 b1 k1) ?_
  rintro e a2 w2 ⟨tm2, g2, H2, dl2, B2, m2, rest⟩
  exact ⟨tm2, g2, H2, dl2, B2, m1.tr m2 s s1, rest⟩
 | outgrown => exact absurd rfl ne
 | exit id => exact ⟨tm1, g1, H1, dl1, B1, m1, s1, r1, n1, b1, k1, ne, q⟩
 | goto id => exact ⟨tm1, g1, H1, dl1, B1, m1, s1, r1, n1, b1, k1, ne, q⟩
 | ret => exact ⟨tm1, g1, H1, dl1, B1, m1, s1, r1, n1, b1, k1, ne, q⟩
 | panic id => exact ⟨tm1, g1, H1, dl1, B1, m1, s1, r1, n1, b1, k1, ne, q⟩
def Q1 (P : Program) (rs : List ResultVar) (H0 : A3) (Q : AB → A3 → Prop) : Exit → Tm → A3 → List GD → Prop
  | .normal, tm, H, dl => LvD P rs H0 Q tm dl .returning H
  | .ret, tm, H, dl => LvD P rs H0 Q tm dl .returning H
  | .panic ch, tm, H, dl => LvD P rs H0 Q tm dl (.panicking ch) H
  | .exit _, _, _, _ => False
  | .goto _, _, _, _ => False
  | .outgrown, _, _, _ => False
theorem Q2 {w : World} {g : Gs} {args : List IV} {vs : Array Value} {n : Nat} (rl : RL w g vs args) : ∀ i, i < (vs ++ Array.replicate (n - vs.size) undef).size → R w g ((vs ++ Array.replicate (n - vs.size) undef).getD i undef) (tm0 args i) := by
 intro i hi; rcases Nat.lt_or_ge i vs.size with hlt | hge
 ·have hil : i < args.length := by rw [← rl.1]; exact hlt
  have := rl.2 i vs[i] args[i] (Array.getElem?_eq_getElem hlt) (List.getElem?_eq_getElem hil); have e1 : (vs ++ Array.replicate (n - vs.size) undef).getD i undef = vs[i] := by
   rw [Array.getD_eq_getD_getElem?, Array.getElem?_append_left hlt]; simp [hlt]
  have e2 : tm0 args i = args[i] := by simp [tm0, hil]
  rw [e1, e2]; exact this
 ·have hil : ¬ i < args.length := by rw [← rl.1]; omega
  have e1 : (vs ++ Array.replicate (n - vs.size) undef).getD i undef = undef := by
   rw [Array.getD_eq_getD_getElem?, Array.getElem?_append_right hge, Array.getElem?_replicate]; split <;> rfl
  have e2 : tm0 args i = .v undef := by simp [tm0, List.getElem?_eq_none (by omega : args.length ≤ i)]
  rw [e1, e2]; exact .v _
theorem JO {f : FuncId} {fn : Func} {c : Code} {args : List IV} {Q : AB → A3 → Prop} (hbd : BQ P f = true) (hf : P.funcs[f]? = some fn) (hb : fn.body = some c) (hn : args.length ≤ fn.ntmps) (hr : (fn.results.toList.all (rvN fn.ntmps)) = true)
    (h : H.Wf → GI P fn.ntmps c (Q1 P fn.results.toList H Q) (tm0 args) H []) : A6 P f args H Q := by
 refine ⟨hbd, fun w g vs s rl => ?_⟩; have hN : (vs ++ Array.replicate (fn.ntmps - vs.size) undef).size = fn.ntmps := by
  have := rl.1; simp; omega
 refine callsIn_wide.1 (callsIn_of_wp_marks (F := FR none) (n := 0) hf hb trivial (wpIn_mono ((h s.wf).run w.heap.size w.heap.size w g { tmps := vs ++ Array.replicate (fn.ntmps - vs.size) undef, defers := [] } s (Q2 rl) hN (Nat.le_refl _) ⟨Nat.le_refl _, fun r e => by cases e⟩) ?_))
 rintro e a' w' ⟨tm', g', H', dl', B', m, s', ra, hN', hB', hm, hne, hq⟩
 have hrn : ∀ r, r ∈ fn.results.toList → rvN a'.tmps.size r = true := by
  rw [hN']; exact List.all_eq_true.1 hr
 cases e with
 | normal => exact FF s hrn dl' hm m s' ra hq
 | ret => exact FF s hrn dl' hm m s' ra hq
 | panic ch => exact FF s hrn dl' hm m s' ra hq
 | exit id => exact hq.elim
 | goto id => exact hq.elim
 | outgrown => exact hq.elim
end Go.Idl
namespace Go.Idl
open Go Go.RowKit
variable {P : Program} {N : Nat} {tm : Tm} {H : A3}
def GJ (P : Program) (R : World → Prop) : List Deferred → World → Prop
  | [], w => R w
  | d :: ds, w => ∃ r w', d.target = .collected r ∧ (Instr.takeDeferred r).run P w = .ok [] w' ∧ GJ P R ds w'
theorem Ez {F : Fence} {n : Nat} {R : World → Prop} : ∀ (ds : List Deferred) (w : World) (fr : Frame) (cs : List Frame), fr.mode ≠ .run → fr.defers = ds → F.fn fr.fn → F.room (cs.length + 1 + n) → GJ P R ds w →
    ∃ w', R w' ∧ StepsIn (Machine.fenced P F) P (lone fr cs w) (lone { fr with defers := [] } cs w')
  | [], w, fr, cs, _, hd, _, _, h => ⟨w, h, by cases fr; simp only at hd; subst hd; exact .refl _⟩
  | d :: ds, w, fr, cs, hm, hd, hb, hr, ⟨r, w', ht, hk, h⟩ => by
    have h1 := step_collected (cs := cs) hm hd ht hk
    have i1 : (lone fr cs w).fenced P F := fenced_out hb hr hm hd (fun g hg => by rw [ht] at hg; simp [Target.leads] at hg)
    obtain ⟨w'', q1, q2⟩ := Ez ds w' { fr with defers := [] ++ ds } cs hm rfl hb hr h
    exact ⟨w'', q1, StepsIn.trans (.one i1 h1) q2⟩
theorem FG {B : Nat} {w0 : World} (hB : w0.heap.size ≤ B) {R : World → Prop} : ∀ (ds : List Deferred) {w : World} {g g0 : Gs}, Bp none B w g ds → AO w0 g0 w g → (∀ w', Agr w w' g → AO w0 g0 w' g → R w') → GJ P R ds w
  | [], w, g, g0, _, m0, k => k w (.refl w g) m0
  | d :: ds, w, g, g0, ⟨⟨r, h1, h2, h3, h4, h5, h6⟩, hm⟩, m0, k => by
    refine ⟨r, _, by rw [h1], run_takeDeferred h4, ?_⟩
    have hag : Agr w (w.putObj r (.deferred none)) g := by
      refine ⟨by simp, rfl, rfl, rfl, fun b xs el f hb => ?_, fun b hb => ?_⟩
      · exact World.putObj_heap_other (fun e => by subst e; rw [h4] at hb; cases hb)
      · exact World.putObj_heap_other (fun e => by subst e; exact h5 (.inr hb))
    have hm0 : AO w0 g0 (w.putObj r (.deferred none)) g := by
      refine ⟨by simpa using m0.size, m0.os, m0.tape, m0.output, fun b hb hn => ?_, m0.own, m0.oth, m0.nx, m0.fx, m0.row⟩
      rw [← m0.keep b hb hn]
      exact World.putObj_heap_other (by omega)
    exact FG hB ds (hm.put ds h6) hm0 fun w' a' m' => k w' (hag.tr a') m'
def Xi (P : Program) (fn : Func) (c0 : Frame) (cs : List Frame) (R : Ending → FrameMode → World → Prop) : Exit → Act → List Frame → World → Prop
  | .normal, a, cs', w => ∃ u', cs' = { c0 with mode := u' } :: cs ∧ GJ P (fun w' => ∃ v, (results fn a.tmps).run P w' = .ok v w' ∧ R (.returned v) u' w') a.defers w
  | .ret, a, cs', w => ∃ u', cs' = { c0 with mode := u' } :: cs ∧ GJ P (fun w' => ∃ v, (results fn a.tmps).run P w' = .ok v w' ∧ R (.returned v) u' w') a.defers w
  | .panic ch, a, cs', w => ∃ u', cs' = { c0 with mode := u' } :: cs ∧ GJ P (fun w' => R (.panicked ch) u' w') a.defers w
  | _, _, _, _ => False
theorem Mi {f : FuncId} {fn : Func} {c : Code} {args : Array Value} {u : FrameMode} {w : World} {R : Ending → FrameMode → World → Prop} (hf : P.funcs[f]? = some fn) (hb : fn.body = some c)
    (h : ∀ (c0 : Frame) (cs : List Frame), c0.mode = u → c.wpSIn (FR none) 0 P (Xi P fn c0 cs R) { tmps := args ++ Array.replicate (fn.ntmps - args.size) undef, defers := [] } (c0 :: cs) w) :
    CallsDIn (FR none) 0 P f args u w R := by
 refine ⟨trivial, fun c0 cs hu hroom => ?_⟩
 let b : Frame := { (default : Frame) with fn := f, kind := .deferred, roundOf := none }
 have henter : Frame.enter P f args .deferred = b.atR { tmps := args ++ Array.replicate (fn.ntmps - args.size) undef, defers := [] } [.code c] := by
  simp [Frame.enter, Frame.atR, hf, hb, b]
 obtain ⟨e, a', cs', w', hl, hq, harr⟩ := h c0 cs hu b [] rfl rfl trivial hroom; rw [← henter] at harr; have room' : ∀ u', (FR none).room (({ c0 with mode := u' } :: cs).length + 1 + 0) := fun _ => hroom; cases e with
 | normal =>
  obtain ⟨u', rfl, ht⟩ := hq; obtain ⟨w'', ⟨v, q1, q2⟩, q3⟩ := Ez (n := 0) a'.defers w' { b.atR a' [] with mode := .returning } ({ c0 with mode := u' } :: cs) (by simp) rfl trivial (room' u') ht; exact ⟨.returned v, u', w'', _, q2, StepsIn.trans (StepsIn.trans harr (.one (fenced_calm (fr := b.atR a' []) trivial hroom rfl) (stepR_end rfl))) q3, rfl, rfl, rfl, rfl, fn, hf, q1⟩
 | ret =>
  obtain ⟨u', rfl, ht⟩ := hq; obtain ⟨todo, hs⟩ := harr.1 rfl; obtain ⟨w'', ⟨v, q1, q2⟩, q3⟩ := Ez (n := 0) a'.defers w' { b.atR a' todo with mode := .returning } ({ c0 with mode := u' } :: cs) (by simp) rfl trivial (room' u') ht; exact ⟨.returned v, u', w'', _, q2, StepsIn.trans hs q3, rfl, rfl, rfl, rfl, fn, hf, q1⟩
 | panic ch =>
  obtain ⟨u', rfl, ht⟩ := hq; obtain ⟨todo, hs⟩ := harr; obtain ⟨w'', q2, q3⟩ := Ez (n := 0) a'.defers w' { b.atR a' todo with mode := .panicking ch } ({ c0 with mode := u' } :: cs) (by simp) rfl trivial (room' u') ht; exact ⟨.panicked ch, u', w'', _, q2, StepsIn.trans hs q3, rfl, rfl, rfl, rfl, fn, hf⟩
 | exit id => exact hq.elim
 | goto l => exact hq.elim
 | outgrown => exact hq.elim
structure GK (P : Program) (N : Nat) (c : Code) (Q : Exit → Tm → A3 → FrameMode → Prop) (tm : Tm) (H : A3) (u : FrameMode) : Prop where
  run : ∀ (B : Nat) (w : World) (g : Gs) (a : Act) (c0 : Frame) (cs : List Frame), c0.mode = u → Sim w g H → RA w g a tm → a.tmps.size = N → B ≤ w.heap.size → Bp none B w g a.defers →
    c.wpSIn (FR none) 0 P (fun e a' cs' w' => ∃ tm' g' H' u', cs' = { c0 with mode := u' } :: cs ∧ AO w g w' g' ∧ Sim w' g' H' ∧ RA w' g' a' tm' ∧ a'.tmps.size = N ∧ Bp none B w' g' a'.defers ∧ e ≠ .outgrown ∧ Q e tm' H' u') a (c0 :: cs) w
theorem GL {F : Fence} {n : Nat} {c : Code} {Q Q' : Exit → Act → List Frame → World → Prop} {a : Act} {cs : List Frame} {w : World} (h : c.wpSIn F n P Q a cs w) (hq : ∀ e a cs w, Q e a cs w → Q' e a cs w) : c.wpSIn F n P Q' a cs w :=
  fun b k h1 h2 h3 h4 => let ⟨e, a', cs', w', q1, q2, q3⟩ := h b k h1 h2 h3 h4; ⟨e, a', cs', w', q1, hq _ _ _ _ q2, q3⟩
theorem GK.of {c : Code} {Q : Exit → Tm → A3 → FrameMode → Prop} {u : FrameMode} (h : IWp P N c (fun e tm H => Q e tm H u) tm H) : GK P N c Q tm H u := by
 refine ⟨fun B w g a c0 cs hu s r hN hB hm => wpSIn_of_wpIn rfl (wpIn_mono (h.run none B [] w g a s r hN hB ⟨a.defers, by simp, hm⟩) ?_)⟩
 rintro e a' w' ⟨tm', g', H', m, s', r', n', ⟨ms, e1, e2⟩, ne, q⟩
 exact ⟨tm', g', H', u, by subst hu; rfl, m, s', r', n', by rw [e1, List.append_nil]; exact e2, ne, q⟩
def thenS (K : Tm → A3 → FrameMode → Prop) (Q : Exit → Tm → A3 → FrameMode → Prop) : Exit → Tm → A3 → FrameMode → Prop
  | .normal, tm, H, u => K tm H u
  | e, tm, H, u => Q e tm H u
theorem Q3 {x y : Code} {Q : Exit → Tm → A3 → FrameMode → Prop} {u : FrameMode} (h : GK P N x (thenS (fun tm H u => GK P N y Q tm H u) Q) tm H u) : GK P N (.seq x y) Q tm H u := by
 refine ⟨fun B w g a c0 cs hu s r hN hB hm => wpSIn_seq (GL (h.run B w g a c0 cs hu s r hN hB hm) ?_)⟩
 rintro e a1 cs1 w1 ⟨tm1, g1, H1, u1, hcs, m1, s1, r1, n1, k1, ne, q⟩
 cases e with
 | normal =>
  subst hcs; refine GL (q.run B w1 g1 a1 _ cs rfl s1 r1 n1 (Nat.le_trans hB m1.size) k1) ?_
  rintro e a2 cs2 w2 ⟨tm2, g2, H2, u2, hcs2, m2, rest⟩
  exact ⟨tm2, g2, H2, u2, hcs2, m1.tr m2 s s1, rest⟩
 | outgrown => exact absurd rfl ne
 | exit id => exact ⟨tm1, g1, H1, u1, hcs, m1, s1, r1, n1, k1, ne, q⟩
 | goto id => exact ⟨tm1, g1, H1, u1, hcs, m1, s1, r1, n1, k1, ne, q⟩
 | ret => exact ⟨tm1, g1, H1, u1, hcs, m1, s1, r1, n1, k1, ne, q⟩
 | panic id => exact ⟨tm1, g1, H1, u1, hcs, m1, s1, r1, n1, k1, ne, q⟩
def Ln : FrameMode → Value × FrameMode
  | .panicking ({ v, recovered := false, goexit := false } :: older) => (v, .panicking ({ v, recovered := true } :: older))
  | u => (.nilIface, u)
theorem Kt {c0 : Frame} {cs : List Frame} {u : FrameMode} (hu : c0.mode = u) :
    (∃ v cs', recoverD (c0 :: cs) = some (v, cs') ∧ cs' = { c0 with mode := (Ln u).2 } :: cs ∧ v = (Ln u).1) ∨ (recoverD (c0 :: cs) = none ∧ (Ln u).1 = .nilIface ∧ { c0 with mode := (Ln u).2 } = c0) := by
 subst hu; simp only [recoverD]; unfold Ln; split
 ·rename_i v older hm; left; exact ⟨v, _, rfl, by simp only [hm], by simp only [hm]⟩
 ·rename_i hm; right; split
  ·rename_i v older hm2; exact absurd hm2 (hm v older)
  ·exact ⟨rfl, rfl, rfl⟩
def Ng : Value → IV
  | .iface t (.agg ⟨[]⟩) => .ifc t (.ag [])
  | .iface t (.agg ⟨[x]⟩) => if x.oneCell' = true then .ifc t (.ag [.v x]) else .v (.iface t (.agg ⟨[x]⟩))
  | v => .v v
theorem Q4 {w : World} {g : Gs} (v : Value) : R w g v (Ng v) := by
 unfold Ng; split
 ·exact .ifc _ _ _ (.ag _ _ rfl (by simp) (by simp))
 ·rename_i x; split
  ·rename_i ho; refine .ifc _ _ _ (.ag _ _ rfl ?_ ?_)
   ·intro j y h1; cases j with
    | zero => simp at h1; subst h1; exact ho
    | succ j => simp at h1
   ·intro j y c h1 h2; cases j with
    | zero => simp at h1 h2; subst h1; subst h2; exact .v _
    | succ j => simp at h2
  ·exact .v _
 ·exact .v _
def Fg (P : Program) (full : Array Oper) : List Oper → (Tm → A3 → FrameMode → Prop) → Tm → A3 → FrameMode → Prop
  | [], Q, tm, H, u => Q tm H u
  | o :: l, Q, tm, H, u => o.guard = none ∧
    match o.op with
    | .call { callee := .builtin .recover, .. } => Fg P full l Q (BR tm o.dst (Ng (Ln u).1)) H (Ln u).2
    | op => match evP P tm op with | some (s, r) => s ∧ Fg P full l Q (BR tm o.dst r) H u | none => False
theorem Hy {full : Array Oper} (hok : full.toList.all (okO N) = true) {Q : Exit → Tm → A3 → FrameMode → Prop} {w0 : World} {g0 : Gs} {B : Nat} {c00 : Frame} {cs : List Frame} :
    ∀ (l : List Oper) (i : Nat) (tm : Tm) (H : A3) (u : FrameMode), (∀ (j : Nat) (o : Oper), l[j]? = some o → full[i + j]? = some o) → Fg P full l (Q .normal) tm H u →
    ∀ (w : World) (g : Gs) (a : Act) (c0 : Frame), c0 = { c00 with mode := u } → AO w0 g0 w g → Sim w g H → RA w g a tm → a.tmps.size = N → B ≤ w.heap.size → Bp none B w g a.defers →
    wpOpsSIn (FR none) 0 P full (fun e a' cs' w' => ∃ tm' g' H' u', cs' = { c00 with mode := u' } :: cs ∧ AO w0 g0 w' g' ∧ Sim w' g' H' ∧ RA w' g' a' tm' ∧ a'.tmps.size = N ∧ Bp none B w' g' a'.defers ∧ e ≠ .outgrown ∧ Q e tm' H' u') (List.range' i l.length) a (c0 :: cs) w
  | [], i, tm, H, u, hl, h, w, g, a, c0, hc, m, s, r, hN, hB, hm => by
    subst hc
    exact ⟨tm, g, H, u, rfl, m, s, r, hN, hm, by simp, h⟩
  | o :: l, i, tm, H, u, hl, h, w, g, a, c0, hc, m, s, r, hN, hB, hm => by
    have ho : full[i]? = some o := hl 0 o rfl
    have hl' : ∀ (j : Nat) (o : Oper), l[j]? = some o → full[i + 1 + j]? = some o := fun j o' h => by
      have := hl (j + 1) o' (by simpa using h)
      rwa [show i + (j + 1) = i + 1 + j by omega] at this
    have hall := List.all_eq_true.1 hok
    have hoo : okO N o = true := hall o (by rw [Array.mem_toList_iff]; exact Array.mem_of_getElem? ho)
    show wpOpsSIn (FR none) 0 P full _ (i :: List.range' (i + 1) l.length) a (c0 :: cs) w
    obtain ⟨hgd, h⟩ := h
    have hw : Region.wanted o (yielded full a.tmps) = true := by simp [Region.wanted, hgd]
    simp only [wpOpsSIn, ho, hw, if_true]
    refine ⟨fun _ _ => trivial, ?_⟩
    have put : ∀ {x : Value} {i' : IV} {u' : FrameMode} {c1 : Frame}, c1 = { c00 with mode := u' } → R w g x i' → Fg P full l (Q .normal) (BR tm o.dst i') H u' → wpOpsSIn (FR none) 0 P full (fun e a' cs' w' => ∃ tm' g' H' u', cs' = { c00 with mode := u' } :: cs ∧ AO w0 g0 w' g' ∧ Sim w' g' H' ∧ RA w' g' a' tm' ∧ a'.tmps.size = N ∧ Bp none B w' g' a'.defers ∧ e ≠ .outgrown ∧ Q e tm' H' u') (List.range' (i + 1) l.length) (a.put o.dst x) (c1 :: cs) w :=
      fun hc1 hx hq => Hy hok l (i + 1) _ H _ hl' hq w g (a.put o.dst _) _ hc1 m s (r.put hx) (by rw [Ed]; exact hN) hB (by rw [put_defers]; exact hm)
    split at h
    · rename_i args ats hop
      have hrun : (execOp a.eval o).run P w = .ok .recover w := by
        simp [execOp, hop, resolve, invoke, builtin]
      rw [hrun]
      have hu : c0.mode = u := by rw [hc]
      rcases Kt (cs := cs) hu with ⟨v, cs', e1, e2, e3⟩ | ⟨e1, e2, e3⟩
      · simp only [e1]
        subst e2 e3
        exact put (by subst hc; rfl) (Q4 _) h
      · simp only [e1]
        rw [e2] at h
        refine put ?_ (Q4 _) h
        rw [← e3]; subst hc; rfl
    · rename_i op hno
      split at h
      · rename_i sd rr he
        obtain ⟨x, q1, q2⟩ := O1 hoo he h.1 w g a r hN
        rw [q1]
        exact put hc q2 h.2
      · exact h.elim
theorem EA {id : Nat} {ops : Array Oper} (hok : ops.toList.all (okO N) = true) {Q : Exit → Tm → A3 → FrameMode → Prop} {u : FrameMode} (h : Fg P ops ops.toList (Q .normal) tm H u) : GK P N (.region id ops false) Q tm H u := by
 refine ⟨fun B w g a c0 cs hu s r hN hB hm => wpSIn_region ?_⟩; have := Hy (Q := Q) (cs := cs) hok ops.toList 0 tm H u (fun j o ho => by simpa using ho) h w g a c0 (c00 := c0) (by subst hu; rfl) (.refl w g) s r hN hB hm
 rwa [List.range_eq_range', ← Array.length_toList]
def S9 (P : Program) (rs : List ResultVar) (H0 : A3) (Q : AB → FrameMode → A3 → Prop) : Exit → Tm → A3 → FrameMode → Prop
  | .normal, tm, H, u => Le P rs H0 (fun e J => Q e u J) tm H
  | .ret, tm, H, u => Le P rs H0 (fun e J => Q e u J) tm H
  | .panic ch, _, H, u => (∃ J, Dg H0 H J ∧ Q (.pan ch) u J) ∨ Q (.pan ch) u H
  | .exit _, _, _, _ => False
  | .goto _, _, _, _ => False
  | .outgrown, _, _, _ => False
theorem Jb {f : FuncId} {fn : Func} {c : Code} {args : List IV} {u : FrameMode} {Q : AB → FrameMode → A3 → Prop} (hbd : BQ P f = true) (hf : P.funcs[f]? = some fn) (hb : fn.body = some c) (hn : args.length ≤ fn.ntmps) (hr : (fn.results.toList.all (rvN fn.ntmps)) = true)
    (h : H.Wf → GK P fn.ntmps c (S9 P fn.results.toList H Q) (tm0 args) H u) : Bi P f args u H Q := by
 refine ⟨hbd, fun w g vs s rl => Mi hf hb fun c0 cs hu => ?_⟩; have hN : (vs ++ Array.replicate (fn.ntmps - vs.size) undef).size = fn.ntmps := by
  have := rl.1; simp; omega
 refine GL ((h s.wf).run w.heap.size w g { tmps := vs ++ Array.replicate (fn.ntmps - vs.size) undef, defers := [] } c0 cs hu s (Q2 rl) hN (Nat.le_refl _) (fun r e => by cases e)) ?_
 rintro e a' cs' w' ⟨tm', g', H', u', hcs, m, s', ra, hN', hm, hne, hq⟩
 have hrn : ∀ r, r ∈ fn.results.toList → rvN a'.tmps.size r = true := by
  rw [hN']; exact List.all_eq_true.1 hr
 have fin : Le P fn.results.toList H (fun e J => Q e u' J) tm' H' → ∃ u', cs' = { c0 with mode := u' } :: cs ∧ GJ P (fun w' => ∃ v, (results fn a'.tmps).run P w' = .ok v w' ∧ ∃ ie g' H', AO w g w' g' ∧ Sim w' g' H' ∧ RE w' g' (.returned v) ie ∧ Q ie u' H') a'.defers w' := by
  intro hl; refine ⟨u', hcs, FG (Nat.le_refl _) a'.defers hm m fun w'' ag m'' => ?_⟩; have s'' := s'.agr ag; obtain ⟨st, is, h1, h2, h3⟩ := hl; obtain ⟨v, q1, q2⟩ := FD (P := P) s'' (fun i hi => (ra i hi).agr ag) hrn h1 h2; refine ⟨v, q1, ?_⟩; rcases h3 with ⟨r', J, h3, h4, h5⟩ | ⟨r', J, h3 | h3, h5⟩
  ·obtain ⟨sJ, mJ⟩ := h3.sim s m'' s''; exact ⟨_, _, J, mJ, sJ, .ret _ _ (h4.sound s'' h3.sub q2), h5⟩
  ·obtain ⟨g3, m3, s3, h4⟩ := h3 w'' g' s''; exact ⟨_, _, J, m''.tr m3 s s'', s3, .ret _ _ (h4 _ q2), h5⟩
  ·obtain ⟨g3, m3, s3, h4⟩ := h3 w g w'' g' s m'' s''; exact ⟨_, _, J, m3, s3, .ret _ _ (h4 _ q2), h5⟩
 cases e with
 | normal => exact fin hq
 | ret => exact fin hq
 | panic ch =>
  refine ⟨u', hcs, FG (Nat.le_refl _) a'.defers hm m fun w'' ag m'' => ?_⟩; have s'' := s'.agr ag; rcases hq with ⟨J, h3, h5⟩ | h5
  ·obtain ⟨sJ, mJ⟩ := h3.sim s m'' s''; exact ⟨_, _, J, mJ, sJ, .pan _, h5⟩
  ·exact ⟨_, _, H', m'', s'', .pan _, h5⟩
 | exit id => exact hq.elim
 | goto id => exact hq.elim
 | outgrown => exact hq.elim
end Go.Idl
namespace Go.Idl
open Go Go.RowKit
variable {P : Program} {N : Nat} {tm : Tm} {H : A3}
structure JP (P : Program) (N : Nat) (ops : Array Oper) (l : List Nat) (Q : Exit → Tm → A3 → List GD → Prop) (tm : Tm) (H : A3) (dl : List GD) : Prop where
  run : ∀ (B0 B : Nat) (w : World) (g : Gs) (a : Act), Sim w g H → RA w g a tm → a.tmps.size = N → B ≤ w.heap.size → DM B0 w g B dl a.defers →
    wpOpsIn (FR none) 0 P ops (fun e a' w' => ∃ tm' g' H' dl' B', AO w g w' g' ∧ Sim w' g' H' ∧ RA w' g' a' tm' ∧ a'.tmps.size = N ∧ B' ≤ w'.heap.size ∧ DM B0 w' g' B' dl' a'.defers ∧ e ≠ .outgrown ∧ Q e tm' H' dl') l a w
theorem OQ {ops : Array Oper} {Q : Exit → Tm → A3 → List GD → Prop} {dl : List GD} (h : Q .normal tm H dl) : JP P N ops [] Q tm H dl :=
  ⟨fun _ B w g _ s r hN hB hm => ⟨tm, g, H, dl, B, .refl w g, s, r, hN, hB, hm, by simp, h⟩⟩
theorem OR {ops : Array Oper} {i : Nat} {l : List Nat} {o : Oper} {Q : Exit → Tm → A3 → List GD → Prop} {dl : List GD} (ho : ops[i]? = some o) (hg : o.guard = none)
    (h : Av P N o tm H (fun x H' => JP P N ops l Q (BR tm o.dst x) H' dl) (fun ch H' => Q (.panic ch) tm H' dl)) : JP P N ops (i :: l) Q tm H dl := by
 refine ⟨fun B0 B w g a s r hN hB hm => ?_⟩; have hw : Region.wanted o (yielded ops a.tmps) = true := by simp [Region.wanted, hg]
 simp only [wpOpsIn, ho, hw, if_true]; refine ⟨EO, ?_⟩; have hsem : o.semAt (FR none).round a.eval = execOp a.eval o := Oper.semAt_eq _ _ _ h.nd; rw [hsem]; refine D8 ?_ ?_ ⟨none, rfl⟩ (h.run none w g a s r hN)
 ·rintro a' w' ⟨x, i, g', H', rfl, m, s', hr, hk⟩
  have := hk.run B0 B w' g' (a.put o.dst x) s' ((r.mono m).put hr) (by rw [Ed]; exact hN) (Nat.le_trans hB m.size) (by rw [put_defers]; exact hm.mono m); refine Hg l _ _ ?_ this
  rintro e a2 w2 ⟨tm2, g2, H2, dl2, B2, m2, rest⟩
  exact ⟨tm2, g2, H2, dl2, B2, m.tr m2 s s', rest⟩
 ·rintro e a' w' ⟨ch, g', H', rfl, rfl, m, s', hq⟩
  exact ⟨tm, g', H', dl, B, m, s', r.mono m, hN, Nat.le_trans hB m.size, hm.mono m, by simp, hq⟩
theorem Mj {ops : Array Oper} {i : Nat} {l : List Nat} {o : Oper} {Q : Exit → Tm → A3 → List GD → Prop} {dl : List GD} (ho : ops[i]? = some o) (hg : o.guard = none) (hok : okO N o = true)
    {x : Operand} {args : Array Operand} {ats : Array TypeId} (hop : o.op = .defer { callee := .value x, args := args, argTypes := ats }) {f : FuncId} {cap : List IV} (hf : fnP (ev tm x) = some (f, cap))
    (h : JP P N ops l Q (BR tm o.dst (.v undef)) H (⟨f, cap, args.toList.map (ev tm)⟩ :: dl)) : JP P N ops (i :: l) Q tm H dl := by
 refine ⟨fun B0 B w g a s r hN hB hm => ?_⟩; have hw : Region.wanted o (yielded ops a.tmps) = true := by simp [Region.wanted, hg]
 simp only [wpOpsIn, ho, hw, if_true]; refine ⟨EO, ?_⟩; have hsem : o.semAt (FR none).round a.eval = execOp a.eval o := Oper.semAt_none _ _; rw [hsem]; subst hN; simp only [okO, hop, Bool.and_eq_true, List.all_eq_true, Op.operands, Call.operands, Array.toList_append, List.mem_append] at hok; have rx := r.ev (x := x) (hok.1 x (.inl (by simp))); have rargs := PG r args (fun q hq => hok.1 q (.inr hq)); have ⟨xs, hxe, hcap⟩ : ∃ xs : Array Value, a.eval x = .func (.func f) #[] xs ∧ RL w g xs cap := by
  unfold fnP at hf; split at hf
  ·rename_i f' first cap' hx
   split at hf
   ·rename_i hs; simp only [Option.some.injEq, Prod.mk.injEq] at hf; obtain ⟨rfl, rfl⟩ := hf; rw [hx] at rx; have e1 : first = #[] := Array.eq_empty_of_size_eq_zero hs.1
    have e2 : cap' = #[] := Array.eq_empty_of_size_eq_zero hs.2; exact ⟨#[], by rw [rx.v_eq, e1, e2], rfl, by simp⟩
   ·cases hf
  ·rename_i f' cap' hx; simp only [Option.some.injEq, Prod.mk.injEq] at hf; obtain ⟨rfl, rfl⟩ := hf; rw [hx] at rx; generalize a.eval x = z at rx; cases rx with
   | fn _ xs ys _ _ hl hl' hr hr' =>
    have e1 : xs = #[] := Array.eq_empty_of_size_eq_zero (by simpa using hl); exact ⟨ys, by rw [e1], hl', hr'⟩
  ·cases hf
 have hrun : (execOp a.eval o).run P w = .ok (.defer { target := .fn (.func f) xs, args := args.map a.eval }) w := by
  simp [execOp, hop, resolve, hxe, Deferred.ofValue]
 rw [hrun]; have hB0 : B0 ≤ w.heap.size := by
  cases dl with
  | nil => exact Nat.le_trans hm.1 hB
  | cons q dl => exact Nat.le_trans hm.1 hB
 have hm' : DM B0 w g w.heap.size (⟨f, cap, args.toList.map (ev tm)⟩ :: dl) ({ target := .fn (.func f) xs, args := args.map a.eval } :: a.defers) :=
  ⟨hB0, [], _, a.defers, B, rfl, (fun r e => by cases e), ⟨xs, rfl, hcap, rargs⟩, DM.lt hB hm, hm⟩
 have r2 : RA w g { a with defers := { target := .fn (.func f) xs, args := args.map a.eval } :: a.defers } tm := fun i hi => r i hi; refine h.run B0 w.heap.size w g _ s (r2.put (.v undef)) (by rw [Ed]) (Nat.le_refl _) ?_; rw [put_defers]; exact hm'
def Fh (P : Program) (N : Nat) (full : Array Oper) : List Oper → (Exit → Tm → A3 → List GD → Prop) → Tm → A3 → List GD → Prop
  | [], Q, tm, H, dl => Q .normal tm H dl
  | o :: l, Q, tm, H, dl => o.guard = none ∧
    match o.op with
    | .defer { callee := .value x, args, .. } => E2 (fnP (ev tm x)) (fun f cap => Fh P N full l Q (BR tm o.dst (.v undef)) H (⟨f, cap, args.toList.map (ev tm)⟩ :: dl)) False
    | _ => Cm P N o tm H (fun x H' => Fh P N full l Q (BR tm o.dst x) H' dl) (fun ch H' => Q (.panic ch) tm H' dl)
theorem Fi {full : Array Oper} (hok : full.toList.all (okO N) = true) {Q : Exit → Tm → A3 → List GD → Prop} : ∀ (l : List Oper) (i : Nat) (tm : Tm) (H : A3) (dl : List GD), (∀ (j : Nat) (o : Oper), l[j]? = some o → full[i + j]? = some o) →
    Fh P N full l Q tm H dl → JP P N full (List.range' i l.length) Q tm H dl
  | [], i, tm, H, dl, _, h => OQ h
  | o :: l, i, tm, H, dl, hl, h => by
    have ho : full[i]? = some o := hl 0 o rfl
    have hl' : ∀ (j : Nat) (o : Oper), l[j]? = some o → full[i + 1 + j]? = some o := fun j o' h => by
      have := hl (j + 1) o' (by simpa using h)
      rwa [show i + (j + 1) = i + 1 + j by omega] at this
    have hall := List.all_eq_true.1 hok
    have hoo : okO N o = true := hall o (by rw [Array.mem_toList_iff]; exact Array.mem_of_getElem? ho)
    show JP P N full (i :: List.range' (i + 1) l.length) Q tm H dl
    obtain ⟨hgd, h⟩ := h
    split at h
    · rename_i x args ats hop
      unfold E2 at h
      split at h
      · rename_i f cap hf
        exact Mj ho hgd hoo hop hf (Fi hok l (i + 1) _ _ _ hl' h)
      · exact h.elim
    · exact OR ho hgd ((Dy hoo h).mono (fun x H' h => Fi hok l (i + 1) _ _ _ hl' h) fun _ _ h => h)
theorem IU {id : Nat} {ops : Array Oper} {Q : Exit → Tm → A3 → List GD → Prop} {dl : List GD} (hok : ops.toList.all (okO N) = true) (h : Fh P N ops ops.toList Q tm H dl) : GI P N (.region id ops false) Q tm H dl := by
 refine ⟨fun B0 B w g a s r hN hB hm => wpIn_region ?_⟩; have := (Fi hok ops.toList 0 tm H dl (fun j o ho => by simpa using ho) h).run B0 B w g a s r hN hB hm
 rwa [List.range_eq_range', ← Array.length_toList]
theorem G3 {x y : Code} {Q : Exit → Tm → A3 → List GD → Prop} {dl : List GD} (h : ∀ cb, cb = y → GI P N x (JN (fun tm H dl => GI P N cb Q tm H dl) Q) tm H dl) : GI P N (.seq x y) Q tm H dl := Q0 (h y rfl)
theorem G4 {x y : Code} {Q : Exit → Tm → A3 → FrameMode → Prop} {u : FrameMode} (h : ∀ cb, cb = y → GK P N x (thenS (fun tm H u => GK P N cb Q tm H u) Q) tm H u) : GK P N (.seq x y) Q tm H u := Q3 (h y rfl)
def vOf : IV → Option Value
  | .v x => some x
  | .ag [] => some (.agg #[])
  | .ag [.v x] => some (.agg #[x])
  | .ifc t (.v x) => some (.iface t x)
  | .ifc t (.ag []) => some (.iface t (.agg #[]))
  | .ifc t (.ag [.v x]) => some (.iface t (.agg #[x]))
  | _ => none
theorem Q5 {w : World} {g : Gs} {x y : Value} (h : R w g x (.ag [.v y])) : x = .agg #[y] := by
 cases h with
 | ag xs _ hl ho hr =>
  have h1 : xs.size = 1 := by simpa using hl
  have h2 : xs[0]? = some xs[0] := Array.getElem?_eq_getElem (by omega); have h3 := (hr 0 _ (.v y) h2 rfl).v_eq; congr 1; refine Array.ext (by simpa using h1) fun i hi hj => ?_; have : i = 0 := by omega
  subst this; simpa using h3
theorem Nh {w : World} {g : Gs} {x : Value} (h : R w g x (.ag [])) : x = .agg #[] := by
 cases h with
 | ag xs _ hl ho hr =>
  congr 1; exact Array.eq_empty_of_size_eq_zero (by simpa using hl)
theorem OS {w : World} {g : Gs} {x : Value} {i : IV} (h : R w g x i) {v : Value} (hv : vOf i = some v) : x = v := by
 unfold vOf at hv; split at hv <;> simp only [Option.some.injEq, reduceCtorEq] at hv
 ·subst hv; exact h.v_eq
 ·subst hv; exact Nh h
 ·subst hv; exact Q5 h
 ·subst hv; cases h with
  | ifc t y _ hy => rw [hy.v_eq]
 ·subst hv; cases h with
  | ifc t y _ hy => rw [Nh hy]
 ·subst hv; cases h with
  | ifc t y _ hy => rw [Q5 hy]
end Go.Idl
