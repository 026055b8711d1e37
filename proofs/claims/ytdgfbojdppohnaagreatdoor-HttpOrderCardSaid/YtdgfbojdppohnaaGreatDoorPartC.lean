/- Heads in any order, their names in great letters, are the same heads: the saying of the case law 12 Part 3. Conditions: none. -/
import Derived.Test.YtdgfbojdppohnaaGreatDoorPartB
import Derived.OrdersIn
import Derived.IntWalk
import Derived.RangeFuncRecord
import Derived.Maps.RangeRun
import Derived.RecoverIn
set_option linter.unusedSimpArgs false
set_option linter.unusedVariables false
namespace Go.Idl
open Go Go.RowKit
variable {P : Program} {N : Nat} {tm : Tm} {H : A0}
def rdI (P : Program) (H : A0) (tm : Tm) (op : Op) : Option (Prop × IV) :=
  match op with
  | .load t x => ldX P H t (ev tm x)
  | .indexAddr t x i => ixX P H t (ev tm x) (ev tm i)
  | .lookup t x i k => lkX P H t (ev tm x) (ev tm i) k
  | .buildSlice t n ps =>
    match bsI P t n (ps.toList.map fun q => (q.1, ev tm q.2)) with
    | some (sz, rs) => some (True, .sl sz (chunks sz n rs))
    | none => none
  | op => evP P tm op
def xI (P : Program) (H : A0) (tm : Tm) (op : Op) (K : IV → A0 → Prop) (Qp : List PanicEntry → A0 → Prop) : Prop :=
  match op with
  | .call { callee := .value x, args, .. } => D2 (fnP (ev tm x)) (L1 P (args.toList.map (ev tm)) H K Qp) False
  | .call { callee := .builtin .append, args, argTypes, .. } =>
    match args.toList, argTypes.toList with
    | [x, y], [t, t'] => Ar (apI P H t t' (ev tm x) (ev tm y)) K False
    | _, _ => False
  | .alloc t => Ar (alX P H t) K False
  | .box _ x => Ar (bxX H (ev tm x)) K False
  | .store t x y => Ar (stX P H t (ev tm x) (ev tm y)) K False
  | .mapUpdate t x i y => Ar (muX P H t (ev tm x) (ev tm i) (ev tm y)) K False
  | _ => False
def isX (op : Op) : Bool :=
  match op with
  | .call c => match c.callee with | .builtin .len => false | _ => true
  | .alloc _ => true
  | .box _ _ => true
  | .store _ _ _ => true
  | .mapUpdate _ _ _ _ => true
  | _ => false
def NO (op : Op) : Bool :=
  match op with
  | .load _ _ => true
  | .indexAddr _ _ _ => true
  | .lookup _ _ _ _ => true
  | _ => false
def vcS (P : Program) (o : Oper) (tm : Tm) (H : A0) (K : IV → A0 → Prop) (Qp : List PanicEntry → A0 → Prop) : Prop :=
  match isX o.op with
  | true => xI P H tm o.op K Qp
  | false => Ar (AM (rdI P H tm o.op) H) K False
theorem NP {o : Oper} {K : IV → A0 → Prop} {Qp : List PanicEntry → A0 → Prop} (hok : okO N o = true) (h : vcS P o tm H K Qp) : Aj P N o tm H K Qp := by
 unfold vcS at h; split at h
 ·unfold xI at h; split at h
  ·rename_i x args ats ho; unfold D2 at h; split at h
   ·rename_i f cap hf; exact Ie ho hok hf h
   ·exact h.elim
  ·rename_i args ats ho; split at h
   ·rename_i x y t t' h1 h2; unfold Ar at h; split at h
    ·rename_i s r H' he; have e1 : args = #[x, y] := Array.toList_inj.1 h1; have e2 : ats = #[t, t'] := Array.toList_inj.1 h2; subst e1; subst e2; exact G1 ho hok he h.1 h.2
    ·exact h.elim
   ·exact h.elim
  all_goals first
   | exact h.elim
   | (rename_i ho
      unfold Ar at h
      split at h
      · rename_i s r H' he
        exact GJ hok (by rw [ho]; exact he) h.1 h.2
      · exact h.elim)
 ·unfold Ar AM at h; split at h
  ·rename_i s r H' he; split at he
   ·rename_i s' r' he'; simp only [Option.some.injEq, Prod.mk.injEq] at he; obtain ⟨rfl, rfl, rfl⟩ := he; unfold rdI at he'; split at he'
    ·rename_i t x ho; exact Ht ho hok he' h.1 h.2
    ·rename_i t x i ho; exact GJ (H' := H) hok (by rw [ho]; simp only [efX, AM, he']) h.1 h.2
    ·rename_i t x i k ho; exact G5 ho hok he' h.1 h.2
    ·rename_i t n ps ho; split at he'
     ·rename_i sz rs hb; simp only [Option.some.injEq, Prod.mk.injEq] at he'; obtain ⟨rfl, rfl⟩ := he'; exact DV ho hok hb h.2
     ·cases he'
    ·exact CF hok he' h.1 h.2
   ·cases he
  ·exact h.elim
theorem CI {x : Option (Prop × IV × A0)} {K K' : IV → A0 → Prop} (h : Ar x K False) (hk : ∀ r H, K r H → K' r H) : Ar x K' False := by
 unfold Ar at h ⊢; split at h
 ·exact ⟨h.1, hk _ _ h.2⟩
 ·exact h
theorem L3 {o : Oper} {K K' : IV → A0 → Prop} {Qp Qp' : List PanicEntry → A0 → Prop} (h : vcS P o tm H K Qp) (hk : ∀ r H, K r H → K' r H) (hq : ∀ c H, Qp c H → Qp' c H) : vcS P o tm H K' Qp' := by
 unfold vcS at h ⊢; split at h
 ·unfold xI at h ⊢; split at h
  ·unfold D2 at h ⊢; split at h
   ·exact A2.mono h fun e H' he => by cases e <;> first | exact hk _ _ he | exact hq _ _ he
   ·exact h
  ·split at h
   ·exact CI h hk
   ·exact h
  ·exact CI h hk
  ·exact CI h hk
  ·exact CI h hk
  ·exact CI h hk
  ·exact h
 ·exact CI h hk
theorem Mf {tm tm' : Tm} {l : List Operand} (h : ∀ x, x ∈ l → ev tm x = ev tm' x) : l.map (ev tm) = l.map (ev tm') := List.map_congr_left h
theorem NQ {tm tm' : Tm} {op : Op} (h : ∀ x, x ∈ op.operands.toList → ev tm x = ev tm' x) : evP P tm op = evP P tm' op := by
 cases op with
 | call c =>
  have e : ∀ x, x ∈ c.args.toList → ev tm x = ev tm' x := fun x hx => h x (by simp only [Op.operands, Call.operands, Array.toList_append, List.mem_append]; exact .inr hx); simp only [evP]; split
  ·split
   ·rename_i x t h1 h2; rw [e x (by rw [h1]; simp)]
   ·rfl
  ·rfl
 | build t ps =>
  have e : (ps.toList.map fun q => (q.1, ev tm q.2)) = ps.toList.map fun q => (q.1, ev tm' q.2) := List.map_congr_left fun q hq => by
   rw [h q.2 (by simp only [Op.operands, List.toList_toArray, List.mem_map, Array.toList_map]; exact ⟨q, hq, rfl⟩)]
  simp only [evP, e]
 | makeFunc f a b =>
  have e1 : a.toList.map (ev tm) = a.toList.map (ev tm') := Mf fun x hx => h x (by simp only [Op.operands, Array.toList_append, List.mem_append]; exact .inl hx); have e2 : b.toList.map (ev tm) = b.toList.map (ev tm') := Mf fun x hx => h x (by simp only [Op.operands, Array.toList_append, List.mem_append]; exact .inr hx); simp only [evP, e1, e2]
 | slice t x lo hi mx =>
  have e0 : ev tm x = ev tm' x := h x (by simp [Op.operands]); have e1 : lo.map (ev tm) = lo.map (ev tm') := by
   cases lo with
   | none => rfl
   | some y => simp only [Option.map_some]; rw [h y (by simp [Op.operands])]
  have e2 : hi.map (ev tm) = hi.map (ev tm') := by
   cases hi with
   | none => rfl
   | some y => simp only [Option.map_some]; rw [h y (by simp [Op.operands])]
  have e3 : mx.map (ev tm) = mx.map (ev tm') := by
   cases mx with
   | none => rfl
   | some y => simp only [Option.map_some]; rw [h y (by simp [Op.operands])]
  simp only [evP, e0, e1, e2, e3]
 | binOp op t x y t' =>
  have e0 : ev tm x = ev tm' x := h x (by simp [Op.operands]); have e1 : ev tm y = ev tm' y := h y (by simp [Op.operands]); simp only [evP, M4]; split
  ·rw [e0]
  ·rw [e0, e1]
 | _ => first
  | rfl
  | (rename_i x y z
     simp only [evP]
     rw [h x (by simp [Op.operands]), h y (by simp [Op.operands]), h z (by simp [Op.operands])])
  | (simp only [Op.operands, List.toList_toArray, List.mem_cons, List.not_mem_nil, or_false, forall_eq_or_imp, forall_eq] at h
     simp only [evP, h])
theorem GL {tm tm' : Tm} {op : Op} (h : ∀ x, x ∈ op.operands.toList → ev tm x = ev tm' x) : rdI P H tm op = rdI P H tm' op := by
 cases op with
 | load t x =>
  simp only [rdI]; rw [h x (by simp [Op.operands])]
 | indexAddr t x y =>
  simp only [rdI]; rw [h x (by simp [Op.operands]), h y (by simp [Op.operands])]
 | lookup t x y k =>
  simp only [rdI]; rw [h x (by simp [Op.operands]), h y (by simp [Op.operands])]
 | buildSlice t n ps =>
  have e : (ps.toList.map fun q => (q.1, ev tm q.2)) = ps.toList.map fun q => (q.1, ev tm' q.2) := List.map_congr_left fun q hq => by
   rw [h q.2 (by simp only [Op.operands, List.toList_toArray, List.mem_map, Array.toList_map]; exact ⟨q, hq, rfl⟩)]
  simp only [rdI, e]
 | _ => exact NQ (P := P) h
theorem OL {tm tm' : Tm} {op : Op} {K : IV → A0 → Prop} {Qp : List PanicEntry → A0 → Prop} (h : ∀ x, x ∈ op.operands.toList → ev tm x = ev tm' x) : xI P H tm op K Qp = xI P H tm' op K Qp := by
 unfold xI; split
 ·rename_i x args ats; simp only [Op.operands, Call.operands, Array.toList_append, List.mem_append] at h; rw [h x (.inl (by simp)), Mf fun y hy => h y (.inr hy)]
 ·rename_i args ats; split
  ·rename_i x y t t' h1 h2; simp only [Op.operands, Call.operands, Array.toList_append, List.mem_append] at h; rw [h x (.inr (by rw [h1]; simp)), h y (.inr (by rw [h1]; simp))]
  ·rfl
 ·rfl
 ·rename_i t x; rw [h x (by simp [Op.operands])]
 ·rename_i t x y; rw [h x (by simp [Op.operands]), h y (by simp [Op.operands])]
 ·rename_i t x y z; rw [h x (by simp [Op.operands]), h y (by simp [Op.operands]), h z (by simp [Op.operands])]
 ·rfl
theorem NR {tm tm' : Tm} {o : Oper} {K : IV → A0 → Prop} {Qp : List PanicEntry → A0 → Prop} (h : ∀ x, x ∈ o.op.operands.toList → ev tm x = ev tm' x) : vcS P o tm H K Qp = vcS P o tm' H K Qp := by
 unfold vcS; rw [OL h, GL h]
end Go.Idl
namespace Go.Idl
open Go Go.RowKit
variable {P : Program} {N : Nat} {tm : Tm} {H : A0} {ops : Array Oper} {Q : Exit → Tm → A0 → Prop}
def DX (ops : Array Oper) (tm : Tm) (o : Oper) : Option Bool :=
  match o.guard with
  | none => some true
  | some (j, b) =>
    match (ops[j]?).bind (·.dst) with
    | some d => match tm d with | .v (.bool c) => some (c == b) | .v _ => some false | _ => none
    | none => none
def DY (P : Program) (ops : Array Oper) (o : Oper) (K : IV → A0 → Prop) (Qp : List PanicEntry → A0 → Prop) (tm : Tm) (H : A0) : Prop :=
  match DX ops tm o with
  | some true => vcS P o tm H K Qp
  | some false => K (.v undef) H
  | none => False
def DP (ops : Array Oper) (o : Oper) (tm tm' : Tm) : Prop := ∀ d, d ∈ o.looksAt ops → tm d = tm' d
theorem DP.ev {o : Oper} {tm tm' : Tm} (h : DP ops o tm tm') : ∀ x, x ∈ o.op.operands.toList → ev tm x = ev tm' x := by
 intro x hx; cases x with
 | tmp t => exact h t (List.mem_append_left _ (List.mem_filterMap.2 ⟨.tmp t, hx, rfl⟩))
 | _ => rfl
theorem DP.want {o : Oper} {tm tm' : Tm} (h : DP ops o tm tm') : DX ops tm o = DX ops tm' o := by
 unfold DX; split
 ·rfl
 ·rename_i j b hg; split
  ·rename_i d hd; rw [h d (List.mem_append_right _ (by rw [hg]; simp [hd]))]
  ·rfl
theorem DP.upd {o : Oper} {tm : Tm} {d : Option Tmp} {x : IV} (h : ∀ e, d = some e → e ∉ o.looksAt ops) : DP ops o (Br tm d x) tm := by
 intro e he; cases d with
 | none => rfl
 | some d => exact Sl tm x (fun h' => h d rfl (h' ▸ he))
theorem DP.symm {o : Oper} {tm tm' : Tm} (h : DP ops o tm tm') : DP ops o tm' tm := fun d hd => (h d hd).symm
theorem DP.trans {o : Oper} {tm tm' tm'' : Tm} (h : DP ops o tm tm') (k : DP ops o tm' tm'') : DP ops o tm tm'' := fun d hd => (h d hd).trans (k d hd)
theorem Hv {o : Oper} {K : IV → A0 → Prop} {Qp : List PanicEntry → A0 → Prop} {tm tm' : Tm} (h : DP ops o tm tm') : DY P ops o K Qp tm H = DY P ops o K Qp tm' H := by
 unfold DY; rw [h.want, NR h.ev]
theorem Fy {o : Oper} {K K' : IV → A0 → Prop} {Qp Qp' : List PanicEntry → A0 → Prop} (h : DY P ops o K Qp tm H) (hk : ∀ r H, K r H → K' r H) (hq : ∀ c H, Qp c H → Qp' c H) : DY P ops o K' Qp' tm H := by
 unfold DY at h ⊢; split at h
 ·exact L3 h hk hq
 ·exact hk _ _ h
 ·exact h
abbrev C8 := List (Nat × (A0 → Prop))
def direct (o : Oper) (i : Nat) : Bool := o.after.any fun e => Region.binds .any e && e.on == i
def RX (S : C8) (o : Oper) (H : A0) : Prop := ∀ q, q ∈ S → direct o q.1 = false → q.2 H
def G8 (P : Program) (ops : Array Oper) (Q : Exit → Tm → A0 → Prop) (S : C8) : Nat → Array Bool → Tm → A0 → Prop
  | 0, listed, tm, H => Region.ready .any ops listed = [] ∧ Q .normal tm H
  | fuel + 1, listed, tm, H =>
    (Region.ready .any ops listed = [] → Q .normal tm H) ∧
    ∀ j, j ∈ Region.ready .any ops listed → ∀ o, ops[j]? = some o →
      DY P ops o (fun x H' => (¬ H' = H → RX S o H') ∧ G8 P ops Q S fuel (listed.setIfInBounds j true) (Br tm o.dst x) H') (fun ch H' => Q (.panic ch) tm H') tm H
def Hw (x : Option (Prop × IV)) (r : IV) : Prop :=
  match x with
  | some (s, r') => s ∧ r' = r
  | none => False
def Im (P : Program) (ops : Array Oper) (o : Oper) (r : IV) (tm : Tm) (H : A0) : Prop :=
  (DX ops tm o = some true ∧ Hw (rdI P H tm o.op) r) ∨ (DX ops tm o = some false ∧ r = .v undef)
def DQ (P : Program) (ops : Array Oper) (o : Oper) (r : IV) (tm : Tm) (H : A0) : Prop := ∀ (K : IV → A0 → Prop) (Qp : List PanicEntry → A0 → Prop), K r H → DY P ops o K Qp tm H
theorem DQ.congr {o : Oper} {r : IV} {tm tm' : Tm} (h : DP ops o tm tm') (k : DQ P ops o r tm H) : DQ P ops o r tm' H := fun K Qp hK => Hv h ▸ k K Qp hK
theorem Im.one {o : Oper} {r : IV} (hx : isX o.op = false) (h : Im P ops o r tm H) : DQ P ops o r tm H := by
 intro K Qp hK; unfold DY; rcases h with ⟨h1, h2⟩ | ⟨h1, rfl⟩
 ·rw [h1]; unfold vcS; rw [hx]; unfold Hw at h2; split at h2
  ·rename_i s r' he; obtain ⟨h3, rfl⟩ := h2; simp only [he, AM, Ar]; exact ⟨h3, hK⟩
  ·exact h2.elim
 ·rw [h1]; exact hK
theorem DQ.skip {o : Oper} (h : DX ops tm o = some false) : DQ P ops o (.v undef) tm H := by
 intro K Qp hK; unfold DY; rw [h]; exact hK
theorem NS {tm : Tm} {d e : Option Tmp} {x y : IV} (h : ∀ i, d = some i → e ≠ some i) : Br (Br tm d x) e y = Br (Br tm e y) d x := by
 cases d with
 | none => rfl
 | some d =>
  cases e with
  | none => rfl
  | some e =>
   funext i; have hne : e ≠ d := fun h' => h d rfl (by rw [h']); simp only [Br, Go.Idl.upd]; by_cases h1 : i = e
   ·subst h1; simp [hne]
   ·by_cases h2 : i = d
    ·subst h2; simp [h1]
    ·simp [h1, h2]
theorem Io {q : Nat × (A0 → Prop)} {S : C8} : ∀ (fuel : Nat) (listed : Array Bool) (tm : Tm) (H : A0), G8 P ops Q (q :: S) fuel listed tm H → G8 P ops Q S fuel listed tm H
  | 0, _, _, _, h => h
  | fuel + 1, listed, tm, H, h => ⟨h.1, fun j hj o ho => Fy (h.2 j hj o ho) (fun x H' h3 => ⟨fun e p hp => h3.1 e p (List.mem_cons_of_mem _ hp), Io fuel _ _ _ h3.2⟩) fun _ _ h => h⟩
theorem OM {op : Op} (h : NO op = false) {H H' : A0} : rdI P H tm op = rdI P H' tm op := by
 cases op <;> first | rfl | (simp [NO] at h)
theorem EX {i : Nat} {oi : Oper} {r : IV} {F : A0 → Prop} (hi : ops[i]? = some oi) (hQ : ∀ (c : List PanicEntry) (i : Nat) (oi : Oper) (x : IV) (tm : Tm) (H : A0), ops[i]? = some oi → Q (.panic c) (Br tm oi.dst x) H → Q (.panic c) tm H) :
    ∀ (fuel : Nat) (listed : Array Bool) (S : C8) (tm : Tm) (H : A0),
      (∀ tm' H', DP ops oi tm tm' → F H' → DQ P ops oi r tm' H') →
      (∀ j oj, ops[j]? = some oj → j ≠ i → listed.getD j true = false → direct oj i = false → oi.apart ops oj = true) →
      i ∈ Region.ready .any ops listed → DQ P ops oi r tm H →
      G8 P ops Q ((i, F) :: S) fuel (listed.setIfInBounds i true) (Br tm oi.dst r) H → G8 P ops Q S (fuel + 1) listed tm H := by
 intro fuel
 induction fuel with
 | zero =>
  intro listed S tm H hF hfree hr hst h; refine ⟨fun e => (by rw [e] at hr; cases hr), fun j hj o ho => ?_⟩; by_cases hji : j = i
  ·subst hji; rw [hi] at ho; cases ho; exact hst _ _ ⟨fun e => absurd rfl e, Io _ _ _ _ h⟩
  ·have := ready_mono hj hji; rw [h.1] at this; cases this
 | succ fuel ih =>
  intro listed S tm H hF hfree hr hst h; refine ⟨fun e => (by rw [e] at hr; cases hr), fun j hj o ho => ?_⟩; by_cases hji : j = i
  ·subst hji; rw [hi] at ho; cases ho; exact hst _ _ ⟨fun e => absurd rfl e, Io _ _ _ _ h⟩
  ·have h1 := h.2 j (ready_mono hj hji) o ho; obtain ⟨hjun, o', ho', hall⟩ := mem_ready.1 hj; rw [ho] at ho'; cases ho'; have hnot : direct o i = false := by
    unfold direct; cases hd : o.after.any fun e => Region.binds .any e && e.on == i with
    | false => rfl
    | true =>
     obtain ⟨e, he, hb⟩ := Array.any_eq_true'.1 hd; simp only [Bool.and_eq_true, beq_iff_eq] at hb; have h1 := hall e he hb.1; have h0 := (mem_ready.1 hr).1; rw [hb.2] at h1; rcases Nat.lt_or_ge i listed.size with h' | h'
     ·simp [h'] at h0 h1; rw [h0] at h1; cases h1
     ·simp [Array.getElem?_eq_none h'] at h1
   obtain ⟨a1, a2, a3⟩ := Oper.apart_spec (hfree j o ho hji hjun hnot); have hsame : DP ops o (Br tm oi.dst r) tm := DP.upd a1; rw [Hv hsame] at h1; refine Fy h1 (fun x H' h3 => ?_) (fun c H' h3 => hQ _ _ _ _ _ _ hi h3); obtain ⟨h3, h4⟩ := h3; refine ⟨fun e q hq => h3 e q (List.mem_cons_of_mem _ hq), ?_⟩; have hs : DP ops oi (Br tm o.dst x) tm := DP.upd a3; refine ih (listed.setIfInBounds j true) S (Br tm o.dst x) H' (fun tm' H'' e f => hF tm' H'' (hs.symm.trans e) f) ?_ (ready_mono hr (Ne.symm hji)) ?_ ?_
   ·intro k ok hk hki hun hno; refine hfree k ok hk hki ?_ hno; by_cases hjk : j = k
    ·subst hjk; exact hjun
    ·rw [getD_set_ne true hjk] at hun; exact hun
   ·by_cases e : H' = H
    ·subst e; exact hst.congr hs.symm
    ·exact hF _ _ hs.symm (h3 e (i, F) (by simp) hnot)
   ·rw [Array.setIfInBounds_comm _ _ hji, NS (d := o.dst) (e := oi.dst) (fun d hd e => a2 d e hd)]; exact h4
theorem Ip {i : Nat} {S : C8} : ∀ (fuel : Nat) (listed : Array Bool) (tm : Tm) (H : A0), G8 P ops Q S fuel listed tm H → G8 P ops Q ((i, fun _ => True) :: S) fuel listed tm H
  | 0, _, _, _, h => h
  | fuel + 1, listed, tm, H, h => ⟨h.1, fun j hj o ho => Fy (h.2 j hj o ho) (fun x H' h3 => ⟨fun e p hp => by
      rcases List.mem_cons.1 hp with hp | hp
      · subst hp; exact fun _ => trivial
      · exact h3.1 e p hp, Ip fuel _ _ _ h3.2⟩) fun _ _ h => h⟩
theorem L4 {o : Oper} {b : Bool} {a : Act} {w : World} {g : Gs} (hok : ops.toList.all (okO N) = true) (hN : a.tmps.size = N) (ra : RA w g a tm) (h : DX ops tm o = some b) : Region.wanted o (yielded ops a.tmps) = b := by
 unfold DX at h; unfold Region.wanted; split at h
 ·rename_i hg; rw [hg]; simpa using h
 ·rename_i j c hg; rw [hg]; split at h
  ·rename_i d hd; have hdN : d < a.tmps.size := by
    rw [Option.bind_eq_some_iff] at hd; obtain ⟨o', h1, h2⟩ := hd; have := List.all_eq_true.1 hok o' (by rw [Array.mem_toList_iff]; exact Array.mem_of_getElem? h1); simp only [okO, h2, Bool.and_eq_true, decide_eq_true_eq] at this; rw [hN]; exact this.2
   split at h
   ·rename_i q hq; have h1 := ra d hdN; rw [hq] at h1; have h2 := h1.v_eq; have h3 : a.tmps[d]? = some (.bool q) := by
     rw [Array.getElem?_eq_getElem hdN]; simpa [hdN] using h2
    simp only [Option.some.injEq] at h; simp [yielded, hd, h3, h]
   ·rename_i y hne hq; simp only [Option.some.injEq] at h; subst h; have h1 := ra d hdN; rw [hq] at h1; have h2 := h1.v_eq; have h3 : a.tmps[d]? = some y := by
     rw [Array.getElem?_eq_getElem hdN]; simpa [hdN] using h2
    have h4 : yielded ops a.tmps j = none := by
     simp only [yielded, hd, Option.bind_some, h3]; split
     ·rename_i c e; cases e; exact (hne c rfl).elim
     ·rfl
    simp [h4]
   ·cases h
  ·cases h
theorem GM (hok : ops.toList.all (okO N) = true) {rr : Option Nat} {B : Nat} {D : List Deferred} {w0 : World} {g0 : Gs} {H0 : A0} (s0 : Sim w0 g0 H0) : ∀ (fuel : Nat) (listed : Array Bool) (tm : Tm) (H : A0), G8 P ops Q [] fuel listed tm H →
    ∀ (w : World) (g : Gs) (a : Act), AB w0 g0 w g → Sim w g H → RA w g a tm → a.tmps.size = N → B ≤ w.heap.size → Marks rr B D w g a.defers → wpAnyIn (FR rr) 0 P .any ops (Post rr B D N Q w0 g0) fuel listed a w
  | 0, listed, tm, H, h, w, g, a, m, s, ra, hN, hB, hm => ⟨h.1, tm, g, H, m, s, ra, hN, hm, by simp, h.2⟩
  | fuel + 1, listed, tm, H, h, w, g, a, m, s, ra, hN, hB, hm => by
    refine ⟨fun e => ⟨tm, g, H, m, s, ra, hN, hm, by simp, h.1 e⟩, fun j hj => ?_⟩
    obtain ⟨_, o, ho, _⟩ := mem_ready.1 hj
    have h1 := h.2 j hj o ho
    have hoo : okO N o = true := List.all_eq_true.1 hok o (by rw [Array.mem_toList_iff]; exact Array.mem_of_getElem? ho)
    unfold DY at h1
    split at h1
    · rename_i hw
      have hw' := L4 hok hN ra hw
      have hio := NP hoo h1
      simp only [wpOpIn, ho, hw', if_true]
      unfold Oper.wpIn
      refine ⟨DU, ?_⟩
      have hsem : o.semAt (FR rr).round a.eval = execOp a.eval o := Oper.semAt_eq _ _ _ hio.nd
      rw [hsem]
      refine Cq ?_ ?_ ⟨rr, rfl⟩ (hio.run rr w g a s ra hN)
      · rintro a' w' ⟨x, i, g', H', rfl, m', s', hr, hk⟩
        exact GM hok s0 fuel _ _ _ hk.2 w' g' _ (m.tr m' s0 s) s' ((ra.mono m').put hr) (by rw [Db]; exact hN) (Nat.le_trans hB m'.size) (by rw [put_defers]; exact hm.mono m')
      · rintro e a' w' ⟨ch, g', H', rfl, rfl, m', s', hq⟩
        exact ⟨tm, g', H', m.tr m' s0 s, s', ra.mono m', hN, hm.mono m', by simp, hq⟩
    · rename_i hw
      have hw' := L4 hok hN ra hw
      simp only [wpOpIn, ho, hw', Bool.false_eq_true, if_false]
      exact ⟨DU, GM hok s0 fuel _ _ _ h1.2 w g _ m s (ra.put (.v _)) (by rw [Db]; exact hN) hB (by rw [put_defers]; exact hm)⟩
    · exact h1.elim
def Ex (o : Oper) (H : A0) : C8 → Prop
  | [] => True
  | (i, F) :: S => (direct o i = false → F H) ∧ Ex o H S
theorem Ex.keeps {o : Oper} {H : A0} : ∀ {S : C8}, Ex o H S → RX S o H
  | [], _, q, hq => by simp at hq
  | (i, F) :: S, h, q, hq => by
    rcases List.mem_cons.1 hq with e | e
    · subst e; exact h.1
    · exact h.2.keeps q e
def dRd (P : Program) (V : C8 → Tm → A0 → Prop) (i : Nat) (o : Oper) (S : C8) (tm : Tm) : IV → A0 → Prop := fun x H =>
  V (match NO o.op with | true => (i, fun H' => Hw (rdI P H' tm o.op) x) :: S | false => S) (Br tm o.dst x) H
def dX (V : C8 → Tm → A0 → Prop) (o : Oper) (S : C8) (tm : Tm) : IV → A0 → Prop := fun x H => Ex o H S ∧ V S (Br tm o.dst x) H
def Cy (P : Program) (V : C8 → Tm → A0 → Prop) (Q : Exit → Tm → A0 → Prop) (i : Nat) (o : Oper) (S : C8) (H : A0) : Tm → Prop := fun tm =>
  match isX o.op with
  | true => xI P H tm o.op (dX V o S tm) (Kc Q tm)
  | false => Ar (AM (rdI P H tm o.op) H) (dRd P V i o S tm) False
def Jw (V : C8 → Tm → A0 → Prop) (o : Oper) (S : C8) (H : A0) : Tm → Prop := fun tm => V S (Br tm o.dst (.v undef)) H
def Dg (P : Program) (H0 : A0) (f : FuncId) (args : List IV) (V : (A0 → Prop) → IV → Prop) : Prop := ∃ (T : A0 → Prop) (r : IV), T H0 ∧ (∀ (H : A0) (K : An → A0 → Prop), T H → K (.ret r) H → A2 P f args H K) ∧ V T r
def ON (P : Program) (H0 : A0) (args : List IV) (V : (A0 → Prop) → IV → Prop) : FuncId → List IV → Prop := fun f cap => Dg P H0 f (args ++ cap) V
def L5 (P : Program) (V : C8 → Tm → A0 → Prop) (i : Nat) (o : Oper) (S : C8) (H : A0) : Tm → Prop := fun tm =>
  match o.op with
  | .call { callee := .value x, args, .. } => D2 (fnP (ev tm x)) (ON P H (args.toList.map (ev tm)) fun T r => V ((i, T) :: S) (Br tm o.dst r) H) False
  | _ => False
def inP : List Nat → Nat → Bool
  | [], _ => false
  | a :: l, i => if a = i then true else inP l i
def Iq (P : Program) (V : C8 → Tm → A0 → Prop) (Q : Exit → Tm → A0 → Prop) (i : Nat) (o : Oper) (S : C8) (H : A0) : Bool → Tm → Prop
  | true => L5 P V i o S H
  | false => Cy P V Q i o S H
def vcD (P : Program) (ops : Array Oper) (Q : Exit → Tm → A0 → Prop) (Pu : List Nat) : List Nat → C8 → Tm → A0 → Prop
  | [], _, tm, H => Q .normal tm H
  | i :: L, S, tm, H =>
    match ops[i]? with
    | none => False
    | some o => vcG ops o tm (Iq P (vcD P ops Q Pu L) Q i o S H (inP Pu i)) (Jw (vcD P ops Q Pu L) o S H)
def OO (ops : Array Oper) (Pu : List Nat) : List Nat → Array Bool → Bool
  | [], listed => (Region.ready .any ops listed).isEmpty
  | i :: L, listed =>
    match ops[i]? with
    | none => false
    | some o => (match isX o.op && !inP Pu i with | true => Region.ready .any ops listed == [i] | false => (Region.ready .any ops listed).contains i && Region.free .any ops listed i) && OO ops Pu L (listed.setIfInBounds i true)
theorem OP {V : C8 → Tm → A0 → Prop} {i : Nat} {o : Oper} {S : C8} (hw : DX ops tm o = some true) (h : L5 P V i o S H tm) : ∃ (T : A0 → Prop) (r : IV), T H ∧ (∀ tm' H', DP ops o tm tm' → T H' → DQ P ops o r tm' H') ∧ V ((i, T) :: S) (Br tm o.dst r) H := by
 unfold L5 at h; split at h
 ·rename_i x args ats ho; unfold D2 at h; split at h
  ·rename_i f cap hf; obtain ⟨T, r, h0, h1, h2⟩ := h; refine ⟨T, r, h0, fun tm' H' hs hT => DQ.congr hs fun K Qp hK => ?_, h2⟩; unfold DY; rw [hw]; show vcS P o tm H' K Qp; have hX : isX o.op = true := by rw [ho]; rfl
   unfold vcS; rw [hX, ho]; show D2 (fnP (ev tm x)) (L1 P (args.toList.map (ev tm)) H' K Qp) False; rw [hf]; exact h1 H' _ hT hK
  ·exact h.elim
 ·exact h.elim
theorem OQ {full : Array Oper} {o : Oper} {run skip : Tm → Prop} (h : vcG full o tm run skip) : (DX full tm o = some true ∧ run tm) ∨ (DX full tm o = some false ∧ skip tm) := by
 unfold vcG at h; unfold DX; split at h
 ·rename_i hg; exact .inl ⟨by rw [hg], h⟩
 ·rename_i j b hg; rw [hg]; split at h
  ·rename_i d hd; simp only [hd]; unfold D0 at h; split at h
   ·rename_i c hc; rw [hc]; simp only; have key : D3 c b (run tm) (skip tm) := by
     cases c with
     | true => have := h.1 rfl; dsimp only at this; rwa [G6 hc] at this
     | false => have := h.2 rfl; dsimp only at this; rwa [G6 hc] at this
    unfold D3 at key; split at key
    ·rename_i e; exact .inl ⟨by rw [e]; simp, key⟩
    ·rename_i e; exact .inr ⟨by simp [e], key⟩
   ·rename_i y hne hc; refine .inr ⟨?_, h⟩; rw [hc]; split
    ·rename_i c e; cases e; exact (hne c rfl).elim
    ·rfl
    ·rename_i e1 e2; exact (e2 y rfl).elim
   ·exact h.elim
  ·exact h.elim
theorem E9 {Pu : List Nat} (hQ : ∀ (c : List PanicEntry) (i : Nat) (oi : Oper) (x : IV) (tm : Tm) (H : A0), ops[i]? = some oi → Q (.panic c) (Br tm oi.dst x) H → Q (.panic c) tm H) (hs : Region.noSelect ops = true) : ∀ (L : List Nat) (listed : Array Bool) (S : C8) (tm : Tm) (H : A0), OO ops Pu L listed = true → vcD P ops Q Pu L S tm H →
    G8 P ops Q S L.length listed tm H
  | [], listed, S, tm, H, hc, h => ⟨List.isEmpty_iff.1 hc, h⟩
  | i :: L, listed, S, tm, H, hc, h => by
    unfold OO at hc
    unfold vcD at h
    cases ho : ops[i]? with
    | none => simp [ho] at hc
    | some o =>
      simp only [ho, Bool.and_eq_true] at hc h
      obtain ⟨hc1, hc2⟩ := hc
      have hg := OQ h
      cases hX : isX o.op && !inP Pu i with
      | true =>
        simp only [hX, beq_iff_eq] at hc1
        simp only [Bool.and_eq_true, Bool.not_eq_true'] at hX
        obtain ⟨hX, hP⟩ := hX
        refine ⟨fun e => (by rw [hc1] at e; cases e), fun j hj o' ho' => ?_⟩
        rw [hc1, List.mem_singleton] at hj
        subst hj
        rw [ho] at ho'
        cases ho'
        unfold DY
        rcases hg with ⟨h1, h2⟩ | ⟨h1, h2⟩
        · rw [h1]
          simp only [hP, Iq, Cy, hX] at h2
          have h3 : vcS P o tm H (dX (vcD P ops Q Pu L) o S tm) (Kc Q tm) := by unfold vcS; rw [hX]; exact h2
          exact L3 h3 (fun x H' q => ⟨fun _ => q.1.keeps, E9 hQ hs L _ _ _ _ hc2 q.2⟩) (fun _ _ q => q)
        · rw [h1]
          exact ⟨fun e => absurd rfl e, E9 hQ hs L _ _ _ _ hc2 h2⟩
      | false =>
        simp only [hX, Bool.and_eq_true] at hc1
        have hr : i ∈ Region.ready .any ops listed := by simpa using hc1.1
        have hfree : ∀ j oj, ops[j]? = some oj → j ≠ i → listed.getD j true = false → direct oj i = false → o.apart ops oj = true := by
          intro j oj hj hne hun hd
          refine Region.free_spec ho hc1.2 j oj hj hne hun fun e he hb heq => ?_
          have : direct oj i = true := Array.any_eq_true'.2 ⟨e, he, by simp [hb, heq]⟩
          rw [hd] at this
          cases this
        rcases hg with ⟨h1, h2⟩ | ⟨h1, h2⟩
        · cases hP : inP Pu i with
          | true =>
            simp only [hP, Iq] at h2
            obtain ⟨T, r, h0, h3, h4⟩ := OP h1 h2
            exact EX (F := T) ho hQ L.length listed S tm H (fun tm' H' e hT => h3 tm' H' e hT) hfree hr (h3 tm H (fun _ _ => rfl) h0) (E9 hQ hs L _ _ _ _ hc2 h4)
          | false =>
            have hX : isX o.op = false := by simpa [hP] using hX
            simp only [hP, Iq, Cy, hX] at h2
            unfold Ar AM at h2
            cases hrd : rdI P H tm o.op with
            | none => simp only [hrd] at h2
            | some q =>
              obtain ⟨sd, r⟩ := q
              simp only [hrd] at h2
              obtain ⟨h3, h4⟩ := h2
              have hst : Im P ops o r tm H := .inl ⟨h1, by unfold Hw; rw [hrd]; exact ⟨h3, rfl⟩⟩
              unfold dRd at h4
              cases hRd : NO o.op with
              | true =>
                simp only [hRd] at h4
                refine EX ho hQ L.length listed S tm H ?_ hfree hr (hst.one hX) (E9 hQ hs L _ _ _ _ hc2 h4)
                intro tm' H' hsm hF
                exact Im.one hX (.inl ⟨by rw [← hsm.want]; exact h1, by rw [← GL hsm.ev]; exact hF⟩)
              | false =>
                simp only [hRd] at h4
                refine EX (F := fun _ => True) ho hQ L.length listed S tm H ?_ hfree hr (hst.one hX) (Ip _ _ _ _ (E9 hQ hs L _ _ _ _ hc2 h4))
                intro tm' H' hsm _
                refine Im.one hX (.inl ⟨by rw [← hsm.want]; exact h1, ?_⟩)
                rw [← GL hsm.ev, OM hRd (H' := H)]
                unfold Hw
                rw [hrd]
                exact ⟨h3, rfl⟩
        · refine EX (F := fun _ => True) ho hQ L.length listed S tm H ?_ hfree hr (.skip h1) (Ip _ _ _ _ (E9 hQ hs L _ _ _ _ hc2 h2))
          intro tm' H' hsm _
          exact .skip (by rw [← hsm.want]; exact h1)
theorem NT {id : Nat} (Pu L : List Nat) (hm : P.follows .mixedOrders = true) (hc : (ops.toList.all (okO N) && Region.noSelect ops && OO ops Pu L (Array.replicate ops.size false) && L.length == ops.size) = true)
    (hQ : ∀ (c : List PanicEntry) (i : Nat) (oi : Oper) (x : IV) (tm : Tm) (H : A0), ops[i]? = some oi → Q (.panic c) (Br tm oi.dst x) H → Q (.panic c) tm H) (h : vcD P ops Q Pu L [] tm H) : IWp P N (.region id ops true) Q tm H := by
 simp only [Bool.and_eq_true, beq_iff_eq] at hc; obtain ⟨⟨⟨h1, h2⟩, h3⟩, h4⟩ := hc; refine ⟨fun rr B D w g a s ra hN hB hmk => ?_⟩; have hany := E9 hQ h2 L _ [] tm H h3 h; rw [h4] at hany; have m' : AB w g { w with drawn := w.drawn + 1 } g := ⟨Nat.le_refl _, rfl, rfl, rfl, fun _ _ _ => rfl, fun _ _ e => e, rfl, Nat.le_refl _, fun _ _ e => ⟨e, rfl⟩, fun k m' _ e => ⟨m', e, Nat.le_refl _, fun _ => rfl⟩⟩; have s' : Sim { w with drawn := w.drawn + 1 } g H := ⟨s.nx, s.sh, s.lt, s.bk, s.inj, fun k o ho => Ct.mono m' (fun _ _ => rfl) (s.obj k o ho), s.old, fun p hp i hi => (s.snap p hp i hi).mono m'⟩; exact wpIn_region_any hm (GM h1 s ops.size _ tm H hany _ g a m' s' (ra.mono m') hN hB (hmk.mono m'))
theorem CJ {id : Nat} (Pu L : List Nat) (hm : P.follows .mixedOrders = true) (hc : (ops.toList.all (okO N) && Region.noSelect ops && OO ops Pu L (Array.replicate ops.size false) && L.length == ops.size) = true)
    (hQ : ∀ c tm tm' H, Q (.panic c) tm H → Q (.panic c) tm' H) (h : vcD P ops Q Pu L [] tm H) : IWp P N (.region id ops true) Q tm H := NT Pu L hm hc (fun c _ _ _ _ _ _ h => hQ c _ _ _ h) h
end Go.Idl
namespace Go.Idl
open Go Go.RowKit
variable {P : Program} {N : Nat} {tm : Tm} {H : A0} {Q : Exit → Tm → A0 → Prop}
def dOp (P : Program) (l : List Oper) (V : C8 → Tm → A0 → Prop) (Q : Exit → Tm → A0 → Prop) (b : Bool) (i : Nat) (S : C8) (tm : Tm) (H : A0) : Option Oper → Prop
  | none => False
  | some o => vcG ⟨l⟩ o tm (Iq P V Q i o S H b) (Jw V o S H)
@[go_sem] theorem X0 {ops : Array Oper} {S : C8} {Pu : List Nat} : vcD P ops Q Pu [] S tm H = Q .normal tm H := rfl
@[go_sem] theorem VO {l : List Oper} {i : Nat} {L Pu : List Nat} {S : C8} : vcD P ⟨l⟩ Q Pu (i :: L) S tm H = dOp P l (vcD P ⟨l⟩ Q Pu L) Q (inP Pu i) i S tm H l[i]? := by
 rw [vcD]; simp only [List.getElem?_toArray]; cases l[i]? <;> rfl
section
variable {l : List Oper} {V : C8 → Tm → A0 → Prop} {i : Nat} {S : C8} {d : Option Tmp} {t : TypeId} {p : String} {af : Array Edge} {gd : Option (Nat × Bool)}
@[go_sem] theorem VP {op : Op} {c : Bool} : dOp P l V Q c i S tm H (some ⟨d, op, t, p, af, none⟩) = Iq P V Q i ⟨d, op, t, p, af, none⟩ S H c tm := rfl
@[go_sem] theorem VQ {op : Op} {j : Nat} {b c : Bool} : dOp P l V Q c i S tm H (some ⟨d, op, t, p, af, some (j, b)⟩) = vcH (L2 l j) b tm (Iq P V Q i ⟨d, op, t, p, af, some (j, b)⟩ S H c) (Jw V ⟨d, op, t, p, af, some (j, b)⟩ S H) := by
 show vcG ⟨l⟩ ⟨d, op, t, p, af, some (j, b)⟩ tm (Iq P V Q i ⟨d, op, t, p, af, some (j, b)⟩ S H c) (Jw V ⟨d, op, t, p, af, some (j, b)⟩ S H) = vcH ((l[j]?).bind (·.dst)) b tm _ _; unfold vcG vcH; simp only [List.getElem?_toArray]; cases (l[j]?).bind (·.dst) <;> rfl
@[go_sem] theorem XP {o : Oper} {Q : Exit → Tm → A0 → Prop} : Iq P V Q i o S H true tm = L5 P V i o S H tm := rfl
@[go_sem] theorem XQ {o : Oper} {Q : Exit → Tm → A0 → Prop} : Iq P V Q i o S H false tm = Cy P V Q i o S H tm := rfl
@[go_sem] theorem X1 : inP [] i = false := rfl
@[go_sem] theorem VR {a : Nat} {m : List Nat} : inP (a :: m) i = if a = i then true else inP m i := rfl
@[go_sem] theorem SR {x : Operand} {m : List Operand} {ats : Array TypeId} : L5 P V i ⟨d, .call ⟨.value x, ⟨m⟩, ats⟩, t, p, af, gd⟩ S H tm =
    D2 (fnP (ev tm x)) (ON P H (m.map (ev tm)) fun T r => V ((i, T) :: S) (Br tm d r) H) False := rfl
@[go_sem] theorem Ve {args cap : List IV} {W : (A0 → Prop) → IV → Prop} {f : FuncId} : ON P H args W f cap = Dg P H f (args ++ cap) W := rfl
theorem Dg.mk {f : FuncId} {args : List IV} {W : (A0 → Prop) → IV → Prop} (r : IV) (h : ∀ (H : A0) (K : An → A0 → Prop), K (.ret r) H → A2 P f args H K) (hW : W (fun _ => True) r) : Dg P H f args W := ⟨_, r, trivial, fun H K _ => h H K, hW⟩
theorem Dg.mkT {f : FuncId} {args : List IV} {W : (A0 → Prop) → IV → Prop} (T : A0 → Prop) (r : IV) (hT : T H) (h : ∀ (H : A0) (K : An → A0 → Prop), T H → K (.ret r) H → A2 P f args H K) (hW : W T r) : Dg P H f args W := ⟨T, r, hT, h, hW⟩
@[go_sem] theorem Vf {op : Op} : Jw V ⟨d, op, t, p, af, gd⟩ S H tm = V S (Br tm d (.v undef)) H := rfl
@[go_sem] theorem XR {op : Op} {x : IV} : dX V ⟨d, op, t, p, af, gd⟩ S tm x H = (Ex ⟨d, op, t, p, af, gd⟩ H S ∧ V S (Br tm d x) H) := rfl
@[go_sem] theorem X2 {op : Op} {x : IV} : dRd P V i ⟨d, op, t, p, af, gd⟩ S tm x H = V (match NO op with | true => (i, fun H' => Hw (rdI P H' tm op) x) :: S | false => S) (Br tm d x) H := rfl
@[go_sem] theorem SS {o : Oper} : Ex o H [] = True := rfl
@[go_sem] theorem RY {o : Oper} {F : A0 → Prop} : Ex o H ((i, F) :: S) = ((direct o i = false → F H) ∧ Ex o H S) := rfl
def QC : List Edge → Nat → Bool
  | [], _ => false
  | e :: l, i => (Region.binds .any e && e.on == i) || QC l i
@[go_sem] theorem Vg {op : Op} {l : List Edge} : direct ⟨d, op, t, p, ⟨l⟩, gd⟩ i = QC l i := by
 unfold direct; simp only [List.any_toArray]
 induction l with
 | nil => rfl
 | cons e l ih => simp only [List.any_cons, QC, ih]
@[go_sem] theorem SU {s : Prop} {x r : IV} : Hw (some (s, x)) r = (s ∧ x = r) := rfl
@[go_sem] theorem SV {r : IV} : Hw none r = False := rfl
@[go_sem] theorem VS {a : TypeId} {x : Operand} : rdI P H tm (.load a x) = ldX P H a (ev tm x) := rfl
@[go_sem] theorem XS {a : TypeId} {x y : Operand} : rdI P H tm (.indexAddr a x y) = ixX P H a (ev tm x) (ev tm y) := rfl
@[go_sem] theorem SX {a : TypeId} {x y : Operand} {k : Bool} : rdI P H tm (.lookup a x y k) = lkX P H a (ev tm x) (ev tm y) k := rfl
@[go_sem] theorem RZ {a : TypeId} {x y : Operand} {k : Bool} : Cy P V Q i ⟨d, .lookup a x y k, t, p, af, gd⟩ S H tm = Ar (AM (lkX P H a (ev tm x) (ev tm y) k) H) (dRd P V i ⟨d, .lookup a x y k, t, p, af, gd⟩ S tm) False := rfl
@[go_sem] theorem OR {a : TypeId} {x y z : Operand} : Cy P V Q i ⟨d, .mapUpdate a x y z, t, p, af, gd⟩ S H tm = Ar (muX P H a (ev tm x) (ev tm y) (ev tm z)) (dX V ⟨d, .mapUpdate a x y z, t, p, af, gd⟩ S tm) False := rfl
@[go_sem] theorem Vh {x : Operand} {l : List Operand} {ats : Array TypeId} : Cy P V Q i ⟨d, .call ⟨.value x, ⟨l⟩, ats⟩, t, p, af, gd⟩ S H tm =
    D2 (fnP (ev tm x)) (L1 P (l.map (ev tm)) H (dX V ⟨d, .call ⟨.value x, ⟨l⟩, ats⟩, t, p, af, gd⟩ S tm) (Kc Q tm)) False := rfl
@[go_sem] theorem R_ {x y : Operand} {a b : TypeId} : Cy P V Q i ⟨d, .call ⟨.builtin .append, #[x, y], #[a, b]⟩, t, p, af, gd⟩ S H tm =
    Ar (apI P H a b (ev tm x) (ev tm y)) (dX V ⟨d, .call ⟨.builtin .append, #[x, y], #[a, b]⟩, t, p, af, gd⟩ S tm) False := rfl
@[go_sem] theorem SY {a : TypeId} : Cy P V Q i ⟨d, .alloc a, t, p, af, gd⟩ S H tm = Ar (alX P H a) (dX V ⟨d, .alloc a, t, p, af, gd⟩ S tm) False := rfl
@[go_sem] theorem VT {a : TypeId} {x : Operand} : Cy P V Q i ⟨d, .box a x, t, p, af, gd⟩ S H tm = Ar (bxX H (ev tm x)) (dX V ⟨d, .box a x, t, p, af, gd⟩ S tm) False := rfl
@[go_sem] theorem SZ {a : TypeId} {x y : Operand} : Cy P V Q i ⟨d, .store a x y, t, p, af, gd⟩ S H tm = Ar (stX P H a (ev tm x) (ev tm y)) (dX V ⟨d, .store a x y, t, p, af, gd⟩ S tm) False := rfl
@[go_sem] theorem VU {x : Operand} {a : TypeId} : Cy P V Q i ⟨d, .call ⟨.builtin .len, #[x], #[a]⟩, t, p, af, gd⟩ S H tm =
    Ar (AM (Er (P.underlying a) (ev tm x)) H) (dRd P V i ⟨d, .call ⟨.builtin .len, #[x], #[a]⟩, t, p, af, gd⟩ S tm) False := rfl
@[go_sem] theorem Vi {x : Operand} : Cy P V Q i ⟨d, .move x, t, p, af, gd⟩ S H tm = dRd P V i ⟨d, .move x, t, p, af, gd⟩ S tm (ev tm x) H := true_and _
@[go_sem] theorem S4 {x : Operand} : Cy P V Q i ⟨d, .assign x, t, p, af, gd⟩ S H tm = dRd P V i ⟨d, .assign x, t, p, af, gd⟩ S tm (ev tm x) H := true_and _
@[go_sem] theorem Vj {a : TypeId} {x : Operand} : Cy P V Q i ⟨d, .load a x, t, p, af, gd⟩ S H tm = Ar (AM (ldX P H a (ev tm x)) H) (dRd P V i ⟨d, .load a x, t, p, af, gd⟩ S tm) False := rfl
@[go_sem] theorem OS {a : TypeId} {x y : Operand} : Cy P V Q i ⟨d, .indexAddr a x y, t, p, af, gd⟩ S H tm = Ar (AM (ixX P H a (ev tm x) (ev tm y)) H) (dRd P V i ⟨d, .indexAddr a x y, t, p, af, gd⟩ S tm) False := rfl
def pkI (c x y : IV) : Option (Prop × IV) :=
  match c with
  | .v (.bool q) => some (True, if q = true then x else y)
  | _ => none
@[go_sem] theorem VV {x y : IV} : pkI (.v (.bool true)) x y = some (True, x) := rfl
@[go_sem] theorem Vk {x y : IV} : pkI (.v (.bool false)) x y = some (True, y) := rfl
@[go_sem] theorem Vl {c a b : Operand} : Cy P V Q i ⟨d, .pick c a b, t, p, af, gd⟩ S H tm = Ar (AM (pkI (ev tm c) (ev tm a) (ev tm b)) H) (dRd P V i ⟨d, .pick c a b, t, p, af, gd⟩ S tm) False := rfl
@[go_sem] theorem S_ {a : TypeId} {l : List (Nat × Operand)} : Cy P V Q i ⟨d, .build a ⟨l⟩, t, p, af, gd⟩ S H tm = Ar (AM (bdP P a (l.map fun q => (q.1, ev tm q.2))) H) (dRd P V i ⟨d, .build a ⟨l⟩, t, p, af, gd⟩ S tm) False := rfl
@[go_sem] theorem Om {a : TypeId} {n : Nat} {l : List (Nat × Operand)} : Cy P V Q i ⟨d, .buildSlice a n ⟨l⟩, t, p, af, gd⟩ S H tm = Ar (AM (bzI n (bsI P a n (l.map fun q => (q.1, ev tm q.2)))) H) (dRd P V i ⟨d, .buildSlice a n ⟨l⟩, t, p, af, gd⟩ S tm) False := rfl
@[go_sem] theorem Qf {x : Operand} : Cy P V Q i ⟨d, .nilCheck x, t, p, af, gd⟩ S H tm = Ar (AM (ncP (ev tm x)) H) (dRd P V i ⟨d, .nilCheck x, t, p, af, gd⟩ S tm) False := rfl
@[go_sem] theorem T0 {op : BinOp} {a b : TypeId} {x y : Operand} : Cy P V Q i ⟨d, .binOp op a x y b, t, p, af, gd⟩ S H tm = Ar (AM (M4 P op a tm x y) H) (dRd P V i ⟨d, .binOp op a x y b, t, p, af, gd⟩ S tm) False := rfl
@[go_sem] theorem Vm {op : UnOp} {a : TypeId} {x : Operand} : Cy P V Q i ⟨d, .unOp op a x, t, p, af, gd⟩ S H tm = Ar (AM (unP op (ev tm x)) H) (dRd P V i ⟨d, .unOp op a x, t, p, af, gd⟩ S tm) False := rfl
@[go_sem] theorem QD {a b : TypeId} {x : Operand} : Cy P V Q i ⟨d, .convert a b x, t, p, af, gd⟩ S H tm = Ar (AM (cvP P a b (ev tm x)) H) (dRd P V i ⟨d, .convert a b x, t, p, af, gd⟩ S tm) False := rfl
@[go_sem] theorem Mg {a : TypeId} {x : Operand} : Cy P V Q i ⟨d, .makeInterface a x, t, p, af, gd⟩ S H tm = Ar (AM (mkP P a (ev tm x)) H) (dRd P V i ⟨d, .makeInterface a x, t, p, af, gd⟩ S tm) False := rfl
@[go_sem] theorem T3 {a : TypeId} {x : Operand} {lo hi mx : Option Operand} : Cy P V Q i ⟨d, .slice a x lo hi mx, t, p, af, gd⟩ S H tm =
    Ar (AM (slP P (P.underlying a) (ev tm x) (lo.map (ev tm)) (hi.map (ev tm)) (mx.map (ev tm))) H) (dRd P V i ⟨d, .slice a x lo hi mx, t, p, af, gd⟩ S tm) False := rfl
@[go_sem] theorem OT {a : TypeId} {x : Operand} {f : Nat} : Cy P V Q i ⟨d, .fieldAddr a x f, t, p, af, gd⟩ S H tm = Ar (AM (fdP P (P.underlying a) (ev tm x) f) H) (dRd P V i ⟨d, .fieldAddr a x f, t, p, af, gd⟩ S tm) False := rfl
@[go_sem] theorem T4 {a : TypeId} {x : Operand} {f : Nat} : Cy P V Q i ⟨d, .field a x f, t, p, af, gd⟩ S H tm = Ar (AM (fvP P (P.underlying a) (ev tm x) f) H) (dRd P V i ⟨d, .field a x f, t, p, af, gd⟩ S tm) False := rfl
@[go_sem] theorem T5 {a : TypeId} {x y : Operand} : Cy P V Q i ⟨d, .index a x y, t, p, af, gd⟩ S H tm = Ar (AM (ivP P (P.underlying a) (ev tm x) (ev tm y)) H) (dRd P V i ⟨d, .index a x y, t, p, af, gd⟩ S tm) False := rfl
@[go_sem] theorem QE {x : Operand} {n : Nat} : Cy P V Q i ⟨d, .extract x n, t, p, af, gd⟩ S H tm = Ar (AM (exP (ev tm x) n) H) (dRd P V i ⟨d, .extract x n, t, p, af, gd⟩ S tm) False := rfl
end
attribute [go_sem] NO QC Region.binds Ck
@[go_sem] theorem wrap_i64 {n : Int} (h1 : -9223372036854775808 ≤ n) (h2 : n ≤ 9223372036854775807) : IntKind.i64.wrap n = n := IntWalk.i64_in n ⟨h1, h2⟩
@[go_sem] theorem wrap_u8 {n : Int} (h1 : 0 ≤ n) (h2 : n ≤ 255) : IntKind.u8.wrap n = n := IntWalk.u8_in n ⟨h1, h2⟩
@[go_sem] theorem wrap_u64 {n : Int} (h1 : 0 ≤ n) (h2 : n ≤ 18446744073709551615) : IntKind.u64.wrap n = n := IntWalk.u64_in n ⟨h1, h2⟩
inductive Bd : IV → Prop
  | v (x : Value) : Bd (.v x)
  | any : Bd .any
  | blk (b : Nat) (xs : Array Value) : Bd (.blk b xs)
  | sl (sz : Nat) (es : List (List IV)) (hn : es.length ≤ D5) (hs : ∀ e, e ∈ es → e.length = sz) (h : ∀ e, e ∈ es → ∀ c, c ∈ e → Bd c) : Bd (.sl sz es)
  | cp (cs : List IV) (h : ∀ c, c ∈ cs → Bd c) : Bd (.cp cs)
  | ag (cs : List IV) (h : ∀ c, c ∈ cs → Bd c) : Bd (.ag cs)
  | tu (cs : List IV) (h : ∀ c, c ∈ cs → Bd c) : Bd (.tu cs)
  | fn (f : Fn) (a b : List IV) : Bd (.fn f a b)
  | ifc (t : TypeId) (x : IV) (h : Bd x) : Bd (.ifc t x)
  | p (k off : Nat) : Bd (.p k off)
  | mp (k : Nat) : Bd (.mp k)
  | os (k m : Nat) : Bd (.os k m)
  | pr (k m off : Nat) : Bd (.pr k m off)
  | bs (k off m : Nat) : Bd (.bs k off m)
theorem R.bd {w : World} {g : Gs} {x : Value} {i : IV} (h : R w g x i) : Bd i := by
 induction h with
 | v x => exact .v x
 | any x => exact .any
 | blk b xs el f x hb h => exact .blk b xs
 | sl0 a cap sz => exact .sl _ _ (by simp [D5]) (by simp) (by simp)
 | sl b off cap sz es cv hb hlt hlen hcap hsz hc ho _ ih =>
  refine .sl _ _ hlen hsz fun e he c hc => ?_; obtain ⟨i, hi⟩ := List.getElem?_of_mem he; obtain ⟨j, hj⟩ := List.getElem?_of_mem hc; exact ih i e j c hi hj
 | cp b off cs cv hb hlt hc ho _ ih =>
  refine .cp _ fun c hc => ?_; obtain ⟨j, hj⟩ := List.getElem?_of_mem hc; exact ih j c hj
 | ag xs cs hl ho _ ih =>
  refine .ag _ fun c hc => ?_; obtain ⟨j, hj⟩ := List.getElem?_of_mem hc; have hlt : j < xs.size := by rw [hl]; exact (List.getElem?_eq_some_iff.1 hj).1
  exact ih j _ c (Array.getElem?_eq_getElem hlt) hj
 | tu xs cs hl _ ih =>
  refine .tu _ fun c hc => ?_; obtain ⟨j, hj⟩ := List.getElem?_of_mem hc; have hlt : j < xs.size := by rw [hl]; exact (List.getElem?_eq_some_iff.1 hj).1
  exact ih j _ c (Array.getElem?_eq_getElem hlt) hj
 | fn f xs ys fi ca hl hl' _ _ ih ih' => exact .fn _ _ _
 | ifc t x c _ ih => exact .ifc _ _ ih
 | p k off x hk hx h => exact .p _ _
 | mp k x hk hx h => exact .mp _
 | os k m x hk h hx => exact .os _ _
 | pr k m off x hk hx h => exact .pr _ _ _
 | bs k off m x hk hx h => exact .bs _ _ _
theorem DZ {f : FuncId} {fn : Func} {c : Code} {args : List IV} {Q : An → A0 → Prop} (hf : P.funcs[f]? = some fn) (hbd : Bq P f = true) (hb : fn.body = some c) (hN : fn.ntmps = N)
    (hn : (decide (args.length ≤ N) && fn.results.toList.all (rvN N) && HK N c) = true)
    (h : H.Wf → (∀ a, a ∈ args → Bd a) → (∀ a, a ∈ args → NB H.next a) → vc P N c (M8 P fn.results.toList H Q) (tm0 args) H) : A2 P f args H Q := by
 refine ⟨hbd, fun w g vs s rl => ?_⟩; simp only [Bool.and_eq_true, decide_eq_true_eq] at hn; refine (Kb hf hbd hb hN ⟨hn.1.1, hn.1.2, hn.2⟩ fun hw => h hw (fun a ha => ?_) (fun a ha => ?_)).run w g vs s rl
 ·obtain ⟨j, hj⟩ := List.getElem?_of_mem ha; have hlt : j < vs.size := by rw [rl.1]; exact (List.getElem?_eq_some_iff.1 hj).1
  exact (rl.2 j _ a (Array.getElem?_eq_getElem hlt) hj).bd
 ·obtain ⟨j, hj⟩ := List.getElem?_of_mem ha; have hlt : j < vs.size := by rw [rl.1]; exact (List.getElem?_eq_some_iff.1 hj).1
  have := (rl.2 j _ a (Array.getElem?_eq_getElem hlt) hj).nb
  rwa [s.nx] at this
end Go.Idl
namespace Go.Idl
open Go Go.RowKit
variable {P : Program} {N : Nat} {tm : Tm} {H : A0} {Q : Exit → Tm → A0 → Prop}
def L6 (l : Nat) (J : Tm → A0 → Prop) (Q : Exit → Tm → A0 → Prop) : Exit → Tm → A0 → Prop
  | .goto l', tm, H => l' = l ∧ J tm H
  | .normal, tm, H => Q .normal tm H
  | .exit id, tm, H => Q (.exit id) tm H
  | .ret, tm, H => Q .ret tm H
  | .panic ch, tm, H => Q (.panic ch) tm H
  | .outgrown, tm, H => Q .outgrown tm H
section
variable {b : Frame} {a : Act} {k : List Item} {cs : List Frame} {w : World}
end
structure Ir (P : Program) (l : Nat) (args : List IV) (H : A0) (K : Bool → A0 → Prop) : Prop where
  run : ∀ (rr : Option Nat) (w : World) (g : Gs) (vs : Array Value), Sim w g H → RL w g vs args → ∃ f tmps assign body, (Instr.yield l vs).run P w = .ok (.round l f tmps assign body) w ∧
    RoundIn (FR rr) 0 P l f tmps assign body w (fun e w' => ∃ b g' H', e = .returned (.bool b) ∧ AB w g w' g' ∧ Sim w' g' H' ∧ K b H')
theorem Ir.mono {l : Nat} {args : List IV} {K K' : Bool → A0 → Prop} (h : Ir P l args H K) (hk : ∀ b H, K b H → K' b H) : Ir P l args H K' :=
  ⟨fun rr w g vs s rl => let ⟨f, t, a, b, h1, h2⟩ := h.run rr w g vs s rl; ⟨f, t, a, b, h1, h2.mono fun e w' ⟨b, g', H', e1, e2, e3, e4⟩ => ⟨b, g', H', e1, e2, e3, hk _ _ e4⟩⟩⟩
abbrev yv (l : Nat) : IV := .v (.func (.yield l) #[] #[])
end Go.Idl
namespace Go.Idl
open Go Go.RowKit
variable {P : Program} {N : Nat} {tm : Tm} {H : A0} {Q : Exit → Tm → A0 → Prop}
theorem Bx.Fj {w w' : World} {g g' : Gs} (m : Hi w g w' g') {xs : Array Value} {cs : List IV} (h : Bx w g xs cs) : Bx w' g' xs cs :=
  ⟨h.1, fun j c hj => let ⟨x, h1, h2, h3⟩ := h.2 j c hj; ⟨x, h1, h2, h3.Fj m⟩⟩
theorem Ct.Fj {w w' : World} {g g' : Gs} (m : Hi w g w' g') {x : Value} {o : HO} (hb : ∀ b, blk x = some b → w'.heap[b]? = w.heap[b]?) (h : Ct w g x o) : Ct w' g' x o := by
 induction o with
 | cells cs =>
  obtain ⟨b, xs, el, f, rfl, h2, h3, h4⟩ := h; exact ⟨b, xs, el, f, rfl, (hb b rfl).trans h2, h3, h4.Fj m⟩
 | row sz es =>
  obtain ⟨a, cap, rfl, h1, h2, h3, h4, h5⟩ := h; refine ⟨a, cap, rfl, h1, h2, h3, h4, ?_⟩; rcases h5 with h5 | ⟨b, xs, el, f, rfl, h6, h7, h8, h9⟩
  ·exact .inl h5
  ·exact .inr ⟨b, xs, el, f, rfl, (hb b rfl).trans h6, h7, h8, h9.Fj m⟩
 | obj o =>
  obtain ⟨b, rfl, h2, h3⟩ := h; exact ⟨b, rfl, (hb b rfl).trans h2, h3⟩
 | map es =>
  obtain ⟨b, ents, clock, rfl, h2, h3⟩ := h; exact ⟨b, ents, clock, rfl, (hb b rfl).trans h2, h3.imp fun x e _ hx => hx.Fj m⟩
 | Dx bs c es =>
  obtain ⟨b, ents, rfl, h2, h3, h4⟩ := h; exact ⟨b, ents, rfl, (hb b rfl).trans h2, h3.imp fun x e _ hx => hx.Fj m, h4⟩
 | it km since seen c =>
  obtain ⟨b, bm, rfl, h2, h3⟩ := h; exact ⟨b, bm, rfl, (hb b rfl).trans h2, h3.Fj m⟩
 | ty t o ih => exact ⟨ih h.1, h.2.keep hb⟩
def A0.skip (H : A0) : A0 := { H with next := H.next + 1 }
section
variable {l : Nat} {t : Array Value} {Hu : A0} {r : Loop} {w : World} {g : Gs}
end
end Go.Idl
namespace Go.Idl
open Go Go.RowKit
variable {P : Program} {N : Nat} {tm : Tm} {H : A0} {Q : Exit → Tm → A0 → Prop}
theorem Hi.trans {w w1 w2 : World} {g g1 g2 : Gs} (h : Hi w g w1 g1) (k : Hi w1 g1 w2 g2) : Hi w g w2 g2 where
  size := Nat.le_trans h.size k.size
  keep := fun b hb hn => (k.keep b (Nat.lt_of_lt_of_le hb h.size) fun e => hn (h.own b hb e)).trans (h.keep b hb hn)
  own := fun b hb e => h.own b hb (k.own b (Nat.lt_of_lt_of_le hb h.size) e)
  nx := Nat.le_trans h.nx k.nx
  fx := fun i hi e => by
    obtain ⟨e1, e2⟩ := k.fx i (Nat.lt_of_lt_of_le hi h.nx) e
    obtain ⟨e3, e4⟩ := h.fx i hi e1
    exact ⟨e3, e2.trans e4⟩
  row := fun i m' hi e => by
    obtain ⟨m1, e1, l1, q1⟩ := k.row i m' (Nat.lt_of_lt_of_le hi h.nx) e
    obtain ⟨m, e2, l2, q2⟩ := h.row i m1 hi e1
    exact ⟨m, e2, Nat.le_trans l2 l1, fun e => (q1 (by omega)).trans (q2 (by omega))⟩
def Mh (K : A0 → Prop) (J : Exit → A0 → Prop) : Exit → Tm → A0 → Prop
  | .normal, _, H => K H
  | .ret, _, H => J .ret H
  | .exit id, _, H => J (.exit id) H
  | .goto t, _, H => J (.goto t) H
  | .panic _, _, _ => False
  | .outgrown, _, _ => False
end Go.Idl
namespace Go.Idl
open Go Go.RowKit
variable {P : Program} {N : Nat} {tm : Tm} {H : A0} {Q : Exit → Tm → A0 → Prop}
def Iter (P : Program) (gf : FuncId) (cap : List IV) (xs : List (List IV)) (C : List (Nat × HO)) : Prop :=
  Bq P gf = true ∧ ∀ (l : Nat) (I : Nat → A0 → Prop) (E : A0 → Prop) (H : A0), (∀ i H, I i H → ∀ p, p ∈ C → H.obj p.1 = some p.2) →
    (∀ i args H, xs[i]? = some args → I i H → Ir P l args H (fun b H' => (b = true ∧ I (i + 1) H') ∨ (b = false ∧ E H'))) → I 0 H →
    A2 P gf (yv l :: cap) H (fun e H' => ∃ r, e = .ret r ∧ (I xs.length H' ∨ E H'))
theorem Bf.lt {rr : Option Nat} {B : Nat} {w : World} {g : Gs} : ∀ {ds : List Deferred}, Bf rr B w g ds → ∀ d, d ∈ ds → ∀ r, d.target = .collected r → r < w.heap.size
  | d :: ds, ⟨⟨r, h1, h2, h3, h4, h5, h6⟩, h⟩, d', hd, r', hr => by
    rcases List.mem_cons.1 hd with e | e
    · subst e
      rw [h1] at hr
      cases hr
      exact h3
    · exact h.lt d' e r' hr
theorem Wk.refl (i : IV) : Wk i i := fun _ _ _ h => h
theorem Wk.nil (sz : Nat) : Wk (.v (.slice none 0 0)) (.sl sz []) := fun _ _ x h => by rw [h.v_eq]; exact .sl0 _ _ _
theorem Fz.same {H J : A0} {i : IV} (h : NB J.next i) : Fz H J i i := .wk i i (.refl i) h
section
variable {n : Nat}
theorem S5 {sz : Nat} {es : List (List IV)} : NB n (.sl sz es) ↔ ∀ e, e ∈ es → ∀ c, c ∈ e → NB n c := ⟨fun h => by cases h with | sl _ _ h => exact h, .sl _ _⟩
theorem VW {cs : List IV} : NB n (.ag cs) ↔ ∀ c, c ∈ cs → NB n c := ⟨fun h => by cases h with | ag _ h => exact h, .ag _⟩
theorem VX {cs : List IV} : NB n (.tu cs) ↔ ∀ c, c ∈ cs → NB n c := ⟨fun h => by cases h with | tu _ h => exact h, .tu _⟩
theorem S6 {f : Fn} {a b : List IV} : NB n (.fn f a b) ↔ (∀ c, c ∈ a → NB n c) ∧ ∀ c, c ∈ b → NB n c := ⟨fun h => by cases h with | fn _ _ _ h h' => exact ⟨h, h'⟩, fun ⟨h, h'⟩ => .fn _ _ _ h h'⟩
theorem XT {k off : Nat} : NB n (.p k off) ↔ k < n := ⟨fun h => by cases h with | p _ _ h => exact h, .p _ _⟩
theorem VY {k m : Nat} : NB n (.os k m) ↔ k < n := ⟨fun h => by cases h with | os _ _ h => exact h, .os _ _⟩
theorem VZ {k off m : Nat} : NB n (.bs k off m) ↔ k < n := ⟨fun h => by cases h with | bs _ _ _ h => exact h, .bs _ _ _⟩
theorem V_ {k : Nat} : NB n (.mp k) ↔ k < n := ⟨fun h => by cases h with | mp _ h => exact h, .mp _⟩
end
@[go_sem] theorem Is {H : A0} {o : HO} : (H.new o).next = H.next + 1 := rfl
@[go_sem] theorem W0 {H : A0} {k : Nat} {o : HO} : (H.set k o).next = H.next := rfl
@[go_sem] theorem W1 {H : A0} {k : Nat} : (H.del k).next = H.next := rfl
@[go_sem] theorem Vn {H : A0} : H.skip.next = H.next + 1 := rfl
@[go_sem] theorem QF {H : A0} {o : HO} {i : Nat} : (H.new o).obj i = if i = H.next then some o else H.obj i := rfl
@[go_sem] theorem X3 {H : A0} {k i : Nat} {o : HO} : (H.set k o).obj i = if i = k then some o else H.obj i := rfl
@[go_sem] theorem X4 {H : A0} {k i : Nat} : (H.del k).obj i = if i = k then none else H.obj i := rfl
@[go_sem] theorem W2 {H : A0} {i : Nat} : H.skip.obj i = H.obj i := rfl
theorem Ext.skip {H H' : A0} (h : Ext H H') : Ext H H'.skip := ⟨h.wf, Nat.le_succ_of_le h.le, h.sub, h.sn⟩
@[go_sem] theorem X5 {n : Nat} : n + 1 + 1 = n + 2 := rfl
@[go_sem] theorem X6 {n : Nat} : n + 2 + 1 = n + 3 := rfl
@[go_sem] theorem X7 {n : Nat} : n + 3 + 1 = n + 4 := rfl
@[go_sem] theorem X8 {n : Nat} : n + 4 + 1 = n + 5 := rfl
@[go_sem] theorem X9 {n : Nat} : n + 5 + 1 = n + 6 := rfl
@[go_sem] theorem Xa {n : Nat} : n + 6 + 1 = n + 7 := rfl
@[go_sem] theorem Xb {n : Nat} : n + 7 + 1 = n + 8 := rfl
@[go_sem] theorem Xc {n : Nat} : n + 8 + 1 = n + 9 := rfl
@[go_sem] theorem W3 {n : Nat} : n + 9 + 1 = n + 10 := rfl
@[go_sem] theorem W4 {n : Nat} : n + 10 + 1 = n + 11 := rfl
@[go_sem] theorem W5 {n : Nat} : n + 11 + 1 = n + 12 := rfl
end Go.Idl
namespace Go.Idl
open Go Go.RowKit
variable {P : Program} {N : Nat} {tm : Tm} {H : A0}
theorem L7 {o : Oper} {K : IV → A0 → Prop} {Qp : List PanicEntry → A0 → Prop} {t t' e : TypeId} {x y : Operand} {sz : Nat} {es : List (List IV)} {op : BinOp} (ho : o.op = .binOp op t x y t') (hok : okO N o = true) (hu : P.underlying t = some (.slice e))
    (hx : ev tm x = .sl sz es) (hy : ev tm y = .v (.slice none 0 0)) (hop : op = .eql ∨ op = .neq) (h : ∀ b : Bool, (b = true → es = []) → K (.v (.bool (if op = .eql then b else !b))) H) : Aj P N o tm H K Qp := by
 obtain ⟨dst, op', type, pos, after, guard⟩ := o; simp only at ho; subst ho; refine AF (by simp) fun w g a s r hN => ?_; subst hN; simp only [okO, Bool.and_eq_true, List.all_eq_true] at hok; have rx := r.ev (x := x) (hok.1 x (by simp [Op.operands])); have ry := r.ev (x := y) (hok.1 y (by simp [Op.operands])); rw [hx] at rx; rw [hy] at ry; obtain ⟨ad, cap, hxe, hne⟩ := rx.K1; have hye := ry.v_eq; have hq : (Op.equal t (.slice ad es.length cap) (.slice none 0 0)).run P w = .ok ad.isNone w := Bs fun d => by
  cases ad <;> simp [Op.equalIn, run_underlying hu]
 have hb : ad.isNone = true → es = [] := by
  intro hb; apply List.eq_nil_of_length_eq_zero; rcases Nat.eq_zero_or_pos es.length with e | e
  ·exact e
  ·obtain ⟨b, off, rfl⟩ := hne e; simp at hb
 have hg : ∀ op ox oy, (eqGuard op t ox oy (.slice ad es.length cap) (.slice none 0 0)).run P w = .ok () w := fun op _ _ => by unfold eqGuard; split <;> rfl
 refine ⟨.bool (if op = .eql then ad.isNone else !ad.isNone), w, g, H, _, .inl ?_, .refl w g, s, .v _, h _ hb⟩; rcases hop with rfl | rfl
 ·have hb1 : (binOp .eql t (.slice ad es.length cap) (.slice none 0 0)).run P w = .ok (.bool ad.isNone) w := by simp [binOp, hq]
  have := DB (hg .eql) hb1 x y; simp only [execOp, hxe, hye]; rw [Sem.run_bind]; rw [this]; rfl
 ·have hb1 : (binOp .neq t (.slice ad es.length cap) (.slice none 0 0)).run P w = .ok (.bool !ad.isNone) w := by simp [binOp, hq]
  have := DB (hg .neq) hb1 x y; simp only [execOp, hxe, hye]; rw [Sem.run_bind]; rw [this]; rfl
theorem It : ∀ (l : List IV), chunks 1 l.length l = l.map fun x => [x]
  | [] => rfl
  | x :: l => by simp [chunks, It l]
theorem Hx {n : Nat} {l : List IV} (h : l.length = n) : chunks 1 n l = l.map fun x => [x] := by rw [← h]; exact It l
theorem fz2 {H J : A0} {a b a' b' : IV} (h : Fz H J a b) (h' : Fz H J a' b') : ∀ (j : Nat) (c c' : IV), [a, a'][j]? = some c → [b, b'][j]? = some c' → Fz H J c c'
  | 0, _, _, h1, h2 => by cases h1; cases h2; exact h
  | 1, _, _, h1, h2 => by cases h1; cases h2; exact h'
  | j + 2, _, _, h1, _ => by simp at h1
theorem fzs {H J : A0} {l : List IV} (h : ∀ c, c ∈ l → NB J.next c) : ∀ (j : Nat) (c c' : IV), l[j]? = some c → l[j]? = some c' → Fz H J c c' := fun j c c' h1 h2 => by
  rw [h1] at h2
  cases h2
  exact .same (h c (List.mem_of_getElem? h1))
theorem Fz.row {H J : A0} {k m sz : Nat} {es : List (List IV)} (hk : J.obj k = none) (ho : H.obj k = some (.row sz es)) (hm : es.length = m) (h : NB J.next (.sl sz es)) : Fz H J (.os k m) (.sl sz es) :=
  .os k m sz es es hk ho hm rfl (fun _ _ _ h1 h2 => by rw [h1] at h2; cases h2; rfl) fun i e e' h1 h2 => by
    rw [h1] at h2
    cases h2
    exact fzs (S5.1 h e (List.mem_of_getElem? h1))
theorem Fz.ptr {H J : A0} {k : Nat} {cs : List IV} (hk : J.obj k = none) (ho : H.obj k = some (.cells cs)) (h : ∀ c, c ∈ cs → NB J.next c) : Fz H J (.p k 0) (.cp cs) :=
  .p k 0 cs cs hk ho rfl (fzs h)
end Go.Idl
namespace Go.Idl
open Go Go.RowKit
variable {P : Program} {N : Nat} {tm : Tm} {H : A0}
def A0.fix (H : A0) (k : Nat) (cs : List IV) : A0 := { next := H.next + 1, obj := fun i => if i = H.next then some (.cells cs) else if i = k then none else H.obj i, sn := H.sn }
def Ea (g : Gs) (k b : Nat) : Gs := { oth := g.oth, mu := fun i => if i = g.nx then .pointer (some ⟨b, 0, none⟩) else g.mu i, sh := fun i => if i = g.nx then some .fx else if i = k then none else g.sh i, nx := g.nx + 1 }
theorem QG {k sz : Nat} {es : List (List IV)} (hk : H.obj k = some (.row sz es)) (hn : 0 < es.length) {w : World} {g : Gs} (s : Sim w g H) :
    ∃ b cap, g.mu k = .slice (some ⟨b, 0, none⟩) es.length cap ∧ es.length ≤ cap ∧ AB w g w (Ea g k b) ∧ Sim w (Ea g k b) (H.fix k es.flatten) := by
 obtain ⟨a, cap, h1, h2, h3, h4, h5, h6⟩ := s.obj k _ hk; rcases h6 with ⟨_, h6⟩ | ⟨b, xs, el, f, rfl, h7, h8, h9, h10⟩
 ·omega
 have hsh : g.sh k = some (.row es.length) := by rw [s.sh, A0.sh, hk]; rfl
 have hkl : k < H.next := s.lt k (by rw [hk]; rfl); have hne : k ≠ g.nx := by rw [s.nx]; omega
 refine ⟨b, cap, h1, h2, ?_⟩; have hb := s.bk k b (by rw [hsh]; rfl) (by rw [h1]; rfl); have hcase : ∀ i, ((Ea g k b).sh i).isSome = true → i = g.nx ∨ (i ≠ g.nx ∧ i ≠ k ∧ (g.sh i).isSome = true) := by
  intro i h; simp only [Ea] at h; split at h
  ·rename_i e; exact .inl e
  ·rename_i e; split at h
   ·cases h
   ·rename_i e'; exact .inr ⟨e, e', h⟩
 have m : AB w g w (Ea g k b) := by
  refine ⟨Nat.le_refl _, rfl, rfl, rfl, fun _ _ _ => rfl, ?_, rfl, Nat.le_succ _, ?_, ?_⟩
  ·rintro c hc (h | ⟨i, q1, q2⟩)
   ·exact .inl h
   ·rcases hcase i q1 with e | ⟨e, e', q3⟩
    ·simp only [Ea, if_pos e, blk, Option.some.injEq] at q2; subst q2; exact .inr ⟨k, by rw [hsh]; rfl, by rw [h1]; rfl⟩
    ·simp only [Ea, if_neg e] at q2; exact .inr ⟨i, q3, q2⟩
  ·intro i hi h; have e : ¬ i = g.nx := by omega
   simp only [Ea, if_neg e] at h ⊢; split at h
   ·cases h
   ·exact ⟨h, trivial⟩
  ·intro i m' hi h; have e : ¬ i = g.nx := by omega
   simp only [Ea, if_neg e] at h ⊢; split at h
   ·cases h
   ·exact ⟨m', h, Nat.le_refl _, fun _ => trivial⟩
 refine ⟨m, ⟨?_, fun i => ?_, fun i h => ?_, fun i c q1 q2 => ?_, fun i j c q1 q2 q3 q4 => ?_, fun i o h => ?_, s.old, fun p hp i hi => (s.snap p hp i hi).mono m⟩⟩
 ·show g.nx + 1 = _; rw [s.nx]; rfl
 ·simp only [Ea, A0.sh, A0.fix, s.nx]; by_cases e : i = H.next
  ·simp [e, HO.sh]
  ·by_cases e' : i = k
   ·rw [if_neg e, if_pos e', if_neg e, if_pos e']; rfl
   ·rw [if_neg e, if_neg e', if_neg e, if_neg e']; exact s.sh i
 ·simp only [A0.fix] at h ⊢; split at h
  ·rename_i e; omega
  ·split at h
   ·cases h
   ·exact Nat.lt_succ_of_lt (s.lt i h)
 ·rcases hcase i q1 with e | ⟨e, e', q3⟩
  ·simp only [Ea, if_pos e, blk, Option.some.injEq] at q2 ⊢; subst q2; exact hb
  ·simp only [Ea, if_neg e] at q2 ⊢; exact s.bk i c q3 q2
 ·rcases hcase i q1 with e | ⟨e, e', q5⟩ <;> rcases hcase j q2 with d | ⟨d, d', q6⟩
  ·rw [e, d]
  ·simp only [Ea, if_pos e, if_neg d, blk, Option.some.injEq] at q3 q4; subst q3; exact absurd (s.inj j k b q6 (by rw [hsh]; rfl) q4 (by rw [h1]; rfl)) d'
  ·simp only [Ea, if_neg e, if_pos d, blk, Option.some.injEq] at q3 q4; subst q4; exact absurd (s.inj i k b q5 (by rw [hsh]; rfl) q3 (by rw [h1]; rfl)) e'
  ·simp only [Ea, if_neg e, if_neg d] at q3 q4; exact s.inj i j c q5 q6 q3 q4
 ·simp only [A0.fix] at h; split at h
  ·rename_i e; cases h; have e' : i = g.nx := by rw [s.nx]; exact e
   refine ⟨b, xs, el, f, by simp [Ea, e'], h7, h8, h10.mono m⟩
  ·rename_i e; split at h
   ·cases h
   ·have e' : ¬ i = g.nx := by rw [s.nx]; exact e
    have hmu : (Ea g k b).mu i = g.mu i := by simp [Ea, e']
    rw [hmu]; exact (s.obj i o h).mono m fun _ _ => rfl
theorem GhR.fix {k sz : Nat} {es : List (List IV)} (hk : H.obj k = some (.row sz es)) (hn : 0 < es.length) : GhR (.os k es.length) H (.bs H.next 0 es.length) (H.fix k es.flatten) := by
 intro w g s; obtain ⟨b, cap, h1, h2, m, s'⟩ := QG hk hn s; refine ⟨_, m, s', fun x hx => ?_⟩; have hsh : g.sh k = some (.row es.length) := by rw [s.sh, A0.sh, hk]; rfl
 cases hx with
 | os _ _ _ _ h _ =>
  have hx := (h _ hsh).2 rfl; rw [hx, h1]; refine .bs _ _ _ _ (by rw [← s.nx]; exact Nat.lt_succ_self _) ⟨_, _, rfl, h2⟩ fun _ _ _ => ⟨b, cap, ?_, rfl⟩; simp [Ea, s.nx]
theorem GhR.drop {r r' : IV} {J : A0} (hs : K6 J H) (hnx : J.next = H.next) (hsn : J.sn = H.sn) (hf : Fz H J r r') : GhR r H r' J := by
 intro w g s; have hlt : ∀ k o, J.obj k = some o → k < J.next := fun k o h => by
  rcases Nat.lt_or_ge k J.next with e | e
  ·exact e
  ·have h1 := hs k o h; rw [s.wf k (by omega)] at h1; cases h1
 have he : Cw H H J := ⟨by omega, by omega, hs, hlt, .inl hnx, hsn⟩; obtain ⟨s1, m1⟩ := he.sim s (.refl w g) s; exact ⟨_, m1, s1, fun x hx => hf.sound s hs hx⟩
def A0.keep (H : A0) (n k : Nat) : A0 := { H with obj := fun i => if i < n ∨ i = k then H.obj i else none }
theorem L8 {n k : Nat} : K6 (H.keep n k) H := by
 intro i o h; simp only [A0.keep] at h; split at h
 ·exact h
 ·cases h
theorem GhR.keep {r : IV} (n k : Nat) : GhR r H r (H.keep n k) := by
 intro w g s; have he : Cw H H (H.keep n k) := ⟨Nat.le_refl _, Nat.le_refl _, L8, fun i o h => s.lt i (by rw [L8 i o h]; rfl), .inl rfl, rfl⟩; obtain ⟨s1, m1⟩ := he.sim s (.refl w g) s; refine ⟨_, m1, s1, fun x hx => hx.to (he.sub.sh s) ?_⟩; have := hx.nb; rw [s.nx] at this; exact this
@[go_sem] theorem Vo {n k : Nat} : (H.keep n k).next = H.next := rfl
@[go_sem] theorem W6 {n k i : Nat} : (H.keep n k).obj i = if i < n ∨ i = k then H.obj i else none := rfl
@[go_sem] theorem W7 {k : Nat} {cs : List IV} : (H.fix k cs).next = H.next + 1 := rfl
@[go_sem] theorem Xd {k i : Nat} {cs : List IV} : (H.fix k cs).obj i = if i = H.next then some (.cells cs) else if i = k then none else H.obj i := rfl
theorem Ext.keep {H H' : A0} (h : Ext H H') (k : Nat) : Ext H (H'.keep H.next k) := by
 refine ⟨h.wf, h.le, fun i o hi => ?_, h.sn⟩; simp only [A0.keep]; have : i < H.next := by
  rcases Nat.lt_or_ge i H.next with e | e
  ·exact e
  ·rw [h.wf i e] at hi; cases hi
 rw [if_pos (.inl this)]; exact h.sub i o hi
theorem Ext.fix {H H' : A0} (h : Ext H H') {k : Nat} (hk : H.next ≤ k) (cs : List IV) : Ext H (H'.fix k cs) := by
 refine ⟨h.wf, Nat.le_succ_of_le h.le, fun i o hi => ?_, h.sn⟩; have : i < H.next := by
  rcases Nat.lt_or_ge i H.next with e | e
  ·exact e
  ·rw [h.wf i e] at hi; cases hi
 have hle := h.le; simp only [A0.fix]; rw [if_neg (by omega), if_neg (by omega)]; exact h.sub i o hi
end Go.Idl
namespace Go.Idl
open Go Go.RowKit
variable {P : Program} {N : Nat} {tm : Tm} {H : A0} {Q : Exit → Tm → A0 → Prop}
def W8 {σ : Type} (P : Program) (gf : FuncId) (cap : List IV) (s0 : σ) (nx : σ → List IV → σ → Prop) (fin : σ → Prop) (C : List (Nat × HO)) : Prop :=
  Bq P gf = true ∧ ∀ (l : Nat) (I : σ → A0 → Prop) (E : A0 → Prop) (H : A0), (∀ i H, I i H → ∀ p, p ∈ C → H.obj p.1 = some p.2) →
    (∀ i args i' H, nx i args i' → I i H → Ir P l args H (fun b H' => (b = true ∧ I i' H') ∨ (b = false ∧ E H'))) → I s0 H →
    A2 P gf (yv l :: cap) H (fun e H' => ∃ r, e = .ret r ∧ ((∃ i, fin i ∧ I i H') ∨ E H'))
theorem Iter.toS {gf : FuncId} {cap : List IV} {xs : List (List IV)} {C : List (Nat × HO)} (h : Iter P gf cap xs C) : W8 P gf cap 0 (fun i args i' => xs[i]? = some args ∧ i' = i + 1) (fun i => i = xs.length) C :=
  ⟨h.1, fun l I E H hC hy h0 => (h.2 l I E H hC (fun i args H hx hI => hy i args (i + 1) H ⟨hx, rfl⟩ hI) h0).mono fun e H' ⟨r, h1, h2⟩ => ⟨r, h1, h2.imp (fun h => ⟨_, rfl, h⟩) id⟩⟩
end Go.Idl
namespace Go.Idl
open Go Go.RowKit
variable {P : Program} {N : Nat} {tm : Tm} {H : A0}
section
variable {κ α : Type} [DecidableEq κ]
def BU : List (κ × α) → κ → Option α
  | [], _ => none
  | p :: m, k => if p.1 = k then some p.2 else BU m k
def Mi : List (κ × α) → κ → α → List (κ × α)
  | [], k, v => [(k, v)]
  | p :: m, k, v => if p.1 = k then (k, v) :: m else p :: Mi m k v
def Cd : List (κ × α) → κ → List (κ × α)
  | [], _ => []
  | p :: m, k => if p.1 = k then m else p :: Cd m k
end
def mE {α : Type} (f : α → IV) (m : List (List UInt8 × α)) : List (Value × IV) := m.map fun p => (str p.1, f p.2)
def mI {α : Type} (j : IntKind) (f : α → IV) (m : List (Int × α)) : List (Value × IV) := m.map fun p => (.int j p.1, f p.2)
theorem GN {a b : List UInt8} : DW (str a) (str b) = decide (b = a) := by
 show ((⟨a.toArray⟩ : ByteArray) == ⟨b.toArray⟩) = decide (b = a); rw [Bool.eq_iff_iff, Go.MapKept.bytes_beq, decide_eq_true_eq]; constructor
 ·intro h; have := congrArg (fun x : ByteArray => x.data.toList) h; simpa using this.symm
 ·rintro rfl; rfl
section
variable {α : Type} {f : α → IV} {m : List (List UInt8 × α)}
theorem OU {k : List UInt8} : lkI (str k) (mE f m) = (BU m k).map f := by
 induction m with
 | nil => rfl
 | cons p m ih =>
  have e : mE f (p :: m) = (str p.1, f p.2) :: mE f m := rfl; rw [e]; unfold lkI at ih ⊢; rw [List.find?_cons]; simp only [GN, BU]; by_cases h : p.1 = k
  ·simp [h]
  ·simp only [h, decide_false, if_false]; exact ih
theorem QH (f : α → IV) (m : List (List UInt8 × α)) (k : List UInt8) (v : α) : Ep (str k) (f v) (mE f m) = mE f (Mi m k v) := by
 induction m with
 | nil => rfl
 | cons p m ih =>
  have e : mE f (p :: m) = (str p.1, f p.2) :: mE f m := rfl; rw [e]; simp only [Ep, GN, Mi]; by_cases h : p.1 = k
  ·simp [h, mE]
  ·simp only [h, decide_false, if_false, Bool.false_eq_true]; rw [ih]; rfl
theorem QI {k : List UInt8} : Fc (str k) (mE f m) = mE f (Cd m k) := by
 induction m with
 | nil => rfl
 | cons p m ih =>
  have e : mE f (p :: m) = (str p.1, f p.2) :: mE f m := rfl; rw [e]; simp only [Fc, GN, Cd]; by_cases h : p.1 = k
  ·simp [h, mE]
  ·simp only [h, decide_false, if_false, Bool.false_eq_true]; rw [ih]; rfl
@[go_sem] theorem T6 {f : α → IV} : mE f [] = [] := rfl
@[go_sem] theorem Xe : ((mE f m).all fun e => AJ .string e.1) = true := by simp [mE, AJ]
end
section
variable {α : Type} {j : IntKind} {f : α → IV} {m : List (Int × α)}
end
@[go_sem] theorem Vp {s : ByteArray} : AJ .string (.string s) = true := rfl
@[go_sem] theorem W9 {d : TypeDesc} : (([] : List (Value × IV)).all fun e => AJ d e.1) = true := rfl
theorem S7 {α : Type} (f : α → IV) (d : α) {z : IV} {o : Option α} (hz : f d = z) : okI true z (o.map f) = .tu [f (o.getD d), .v (.bool o.isSome)] := by
 subst hz; cases o <;> simp [okI]
def zvA (P : Program) (t : TypeId) (z : Option Value) (u : Option TypeDesc) : Option IV :=
  match z with
  | some (.slice none 0 0) => match u with | some (.slice e) => some (.sl (P.cellsOf e) []) | _ => none
  | some (.agg cs) => if (cs.toList.all (·.oneCell')) = true then some (.ag (zvc cs.toList (G4 P 9 t))) else none
  | some z => some (.v z)
  | none => none
@[go_sem] theorem XU {t : TypeId} : zvI P t = zvA P t (zeroOf P t) (P.underlying t) := rfl
@[go_sem] theorem XV {t : TypeId} {e : TypeId} : zvA P t (some (.slice none 0 0)) (some (.slice e)) = some (.sl (P.cellsOf e) []) := rfl
@[go_sem] theorem Xf {t : TypeId} {u : Option TypeDesc} {j : IntKind} {n : Int} : zvA P t (some (.int j n)) u = some (.v (.int j n)) := rfl
@[go_sem] theorem Wa {t : TypeId} {u : Option TypeDesc} {b : Bool} : zvA P t (some (.bool b)) u = some (.v (.bool b)) := rfl
@[go_sem] theorem Xg {t : TypeId} {u : Option TypeDesc} {s : ByteArray} : zvA P t (some (.string s)) u = some (.v (.string s)) := rfl
attribute [go_sem] zvc
def lkB (d : Option TypeDesc) (z : Option IV) (H : A0) (x i : IV) (ok : Bool) : Option (Prop × IV) :=
  match d, z, i with
  | some d, some z, .v k =>
    match x with
    | .mp m =>
      match H.obj m with
      | some (.map es) => some (AJ d k = true ∧ (es.all fun e => AJ d e.1) = true, okI ok z (lkI k es))
      | some (.Dx _ _ es) => some (AJ d k = true ∧ (es.all fun e => AJ d e.1) = true, okI ok z (lkI k es))
      | _ => none
    | .v (.map none) => some (AJ d k = true, okI ok z none)
    | _ => none
  | _, _, _ => none
def lkA (P : Program) (u : Option TypeDesc) (H : A0) (x i : IV) (ok : Bool) : Option (Prop × IV) :=
  match u with
  | some (.map kt et) => lkB (P.underlying kt) (zvI P et) H x i ok
  | _ => none
def lkC (d : TypeDesc) (z : IV) (k : Value) (ok : Bool) (o : Option HO) : Option (Prop × IV) :=
  match o with
  | some (.map es) => some (AJ d k = true ∧ (es.all fun e => AJ d e.1) = true, okI ok z (lkI k es))
  | some (.Dx _ _ es) => some (AJ d k = true ∧ (es.all fun e => AJ d e.1) = true, okI ok z (lkI k es))
  | _ => none
@[go_sem] theorem XW {t : TypeId} {x i : IV} {ok : Bool} : lkX P H t x i ok = lkA P (P.underlying t) H x i ok := rfl
@[go_sem] theorem Xh {kt et : TypeId} {x i : IV} {ok : Bool} : lkA P (some (.map kt et)) H x i ok = lkB (P.underlying kt) (zvI P et) H x i ok := rfl
@[go_sem] theorem XX {d : TypeDesc} {z : IV} {m : Nat} {k : Value} {ok : Bool} : lkB (some d) (some z) H (.mp m) (.v k) ok = lkC d z k ok (H.obj m) := rfl
@[go_sem] theorem Xi {d : TypeDesc} {z : IV} {k : Value} {ok : Bool} : lkB (some d) (some z) H (.v (.map none)) (.v k) ok = some (AJ d k = true, okI ok z none) := rfl
@[go_sem] theorem Xj {d : TypeDesc} {z : IV} {k : Value} {ok : Bool} {es : List (Value × IV)} : lkC d z k ok (some (.map es)) = some (AJ d k = true ∧ (es.all fun e => AJ d e.1) = true, okI ok z (lkI k es)) := rfl
def muB (d : Option TypeDesc) (H : A0) (x i y : IV) : Option (Prop × IV × A0) :=
  match d, i, x with
  | some d, .v k, .mp m =>
    match H.obj m with
    | some (.map es) => some (AJ d k = true ∧ (es.all fun e => AJ d e.1) = true, .v undef, H.set m (.map (Ep k y es)))
    | _ => none
  | _, _, _ => none
def muA (P : Program) (u : Option TypeDesc) (H : A0) (x i y : IV) : Option (Prop × IV × A0) :=
  match u with
  | some (.map kt _) => muB (P.underlying kt) H x i y
  | _ => none
def muC (d : TypeDesc) (H : A0) (k : Value) (m : Nat) (y : IV) (o : Option HO) : Option (Prop × IV × A0) :=
  match o with
  | some (.map es) => some (AJ d k = true ∧ (es.all fun e => AJ d e.1) = true, .v undef, H.set m (.map (Ep k y es)))
  | _ => none
@[go_sem] theorem XY {t : TypeId} {x i y : IV} : muX P H t x i y = muA P (P.underlying t) H x i y := rfl
@[go_sem] theorem Xk {kt et : TypeId} {x i y : IV} : muA P (some (.map kt et)) H x i y = muB (P.underlying kt) H x i y := rfl
@[go_sem] theorem XZ {d : TypeDesc} {m : Nat} {k : Value} {y : IV} : muB (some d) H (.mp m) (.v k) y = muC d H k m y (H.obj m) := rfl
@[go_sem] theorem Xl {d : TypeDesc} {k : Value} {m : Nat} {y : IV} {es : List (Value × IV)} : muC d H k m y (some (.map es)) = some (AJ d k = true ∧ (es.all fun e => AJ d e.1) = true, .v undef, H.set m (.map (Ep k y es))) := rfl
def dlB (d : Option TypeDesc) (H : A0) (x i : IV) : Option (Prop × IV × A0) :=
  match d, i, x with
  | some d, .v k, .mp m =>
    match H.obj m with
    | some (.map es) => some (AJ d k = true ∧ (es.all fun e => AJ d e.1) = true, .tu [], H.set m (.map (Fc k es)))
    | _ => none
  | _, _, _ => none
def dlA (P : Program) (u : Option TypeDesc) (H : A0) (x i : IV) : Option (Prop × IV × A0) :=
  match u with
  | some (.map kt _) => dlB (P.underlying kt) H x i
  | _ => none
def dlC (d : TypeDesc) (H : A0) (k : Value) (m : Nat) (o : Option HO) : Option (Prop × IV × A0) :=
  match o with
  | some (.map es) => some (AJ d k = true ∧ (es.all fun e => AJ d e.1) = true, .tu [], H.set m (.map (Fc k es)))
  | _ => none
@[go_sem] theorem X_ {t : TypeId} {x i : IV} : dlX P H t x i = dlA P (P.underlying t) H x i := rfl
@[go_sem] theorem Xm {kt et : TypeId} {x i : IV} : dlA P (some (.map kt et)) H x i = dlB (P.underlying kt) H x i := rfl
@[go_sem] theorem Y0 {d : TypeDesc} {m : Nat} {k : Value} : dlB (some d) H (.mp m) (.v k) = dlC d H k m (H.obj m) := rfl
@[go_sem] theorem Xn {d : TypeDesc} {k : Value} {m : Nat} {es : List (Value × IV)} : dlC d H k m (some (.map es)) = some (AJ d k = true ∧ (es.all fun e => AJ d e.1) = true, .tu [], H.set m (.map (Fc k es))) := rfl
def lnB (u : Option TypeDesc) (H : A0) (x : IV) : Option (Prop × IV) :=
  match u, x with
  | some (.map _ _), .mp m =>
    match H.obj m with
    | some (.map es) => some (True, .v (.int .i64 es.length))
    | _ => none
  | _, _ => none
def lnC (o : Option HO) : Option (Prop × IV) :=
  match o with
  | some (.map es) => some (True, .v (.int .i64 es.length))
  | _ => none
@[go_sem] theorem Y1 {t : TypeId} {x : IV} : lnX P H t x = lnB (P.underlying t) H x := rfl
@[go_sem] theorem Y2 {a b : TypeId} {m : Nat} : lnB (some (.map a b)) H (.mp m) = lnC (H.obj m) := rfl
@[go_sem] theorem Xo {es : List (Value × IV)} : lnC (some (.map es)) = some (True, .v (.int .i64 es.length)) := rfl
@[go_sem] theorem Xp {a b : TypeId} {m : Nat} : Er (some (.map a b)) (.mp m) = none := rfl
end Go.Idl
namespace Go.Idl
open Go Go.RowKit
variable {P : Program} {N : Nat} {tm : Tm} {H : A0} {Q : Exit → Tm → A0 → Prop}
theorem Sim.T7 {w : World} {g : Gs} (s : Sim w g H) (k : Nat) : Sim w (g.to (H.del k)) (H.del k) ∧ AB w g w (g.to (H.del k)) := (G3 H s.wf k).sim s (.refl w g) s
theorem N7 (k : Nat) : K6 (H.del k) H := fun i o h => by
  simp only [A0.del] at h
  split at h
  · cases h
  · exact h
theorem Sim.T8 {w : World} {g : Gs} (s : Sim w g H) {k sz n : Nat} {es : List (List IV)} (hk : H.obj k = some (.row sz es)) (hn : es.length = n) {x : Value} (hx : R w g x (.os k n)) : R w (g.to (H.del k)) x (.sl sz es) := by
 subst hn; refine (Fz.os k es.length sz es es (by simp [A0.del]) hk rfl rfl (fun j e e' h1 h2 => by rw [h1] at h2; cases h2; rfl) fun j e e' h1 h2 q c c' h3 h4 => ?_).sound s (N7 k) hx; rw [h1] at h2; cases h2; rw [h3] at h4; cases h4; refine .wk _ _ (fun _ _ _ h => h) ?_; have hnb := (s.obj k _ hk).nb; rw [s.nx] at hnb; exact hnb e (List.mem_of_getElem? h1) c (List.mem_of_getElem? h3)
theorem Sim.S8 {w : World} {g : Gs} (s : Sim w g H) (k : Nat) {x : Value} {i : IV} (hx : R w g x i) : R w (g.to (H.del k)) x i := hx.mono (s.T7 k).2
inductive FzK (H : A0) (k : Nat) : IV → IV → Prop
  | same (a : IV) : FzK H k a a
  | row (sz n : Nat) (es : List (List IV)) (hk : H.obj k = some (.row sz es)) (hn : es.length = n) : FzK H k (.os k n) (.sl sz es)
inductive FA (H : A0) (k : Nat) : List IV → List IV → Prop
  | nil : FA H k [] []
  | cons {a b : IV} {l m : List IV} (h : FzK H k a b) (t : FA H k l m) : FA H k (a :: l) (b :: m)
theorem FzK.sound {w : World} {g : Gs} (s : Sim w g H) {k : Nat} {a b : IV} (h : FzK H k a b) {x : Value} (hx : R w g x a) : R w (g.to (H.del k)) x b := by
 cases h with
 | same => exact s.S8 k hx
 | row sz n es hk hn => exact s.T8 hk hn hx
theorem FA.len {k : Nat} {l m : List IV} (h : FA H k l m) : m.length = l.length := by
 induction h with
 | nil => rfl
 | cons _ _ ih => simp [ih]
theorem FA.get {k : Nat} {l m : List IV} (h : FA H k l m) : ∀ (j : Nat) (a b : IV), l[j]? = some a → m[j]? = some b → FzK H k a b := by
 induction h with
 | nil => intro j a b h; simp at h
 | cons h _ ih =>
  intro j a b h1 h2; cases j with
  | zero => simp at h1 h2; subst h1; subst h2; exact h
  | succ j => exact ih j a b (by simpa using h1) (by simpa using h2)
theorem FA.refl {k : Nat} : ∀ (l : List IV), FA H k l l
  | [] => .nil
  | _ :: l => .cons (.same _) (FA.refl l)
theorem A2.fz {f : FuncId} {k : Nat} {args args' : List IV} {K : An → A0 → Prop} (ha : FA H k args args') (h : A2 P f args' (H.del k) K) : A2 P f args H K := by
 refine ⟨h.body, fun w g vs s rl => ?_⟩; obtain ⟨s1, m1⟩ := s.T7 k
 have rl' : RL w (g.to (H.del k)) vs args' := ⟨rl.1.trans ha.len.symm, fun j x c hx hc => by
   have hlt : j < args.length := by rw [← ha.len]; exact (List.getElem?_eq_some_iff.1 hc).1
   exact (ha.get j _ c (List.getElem?_eq_getElem hlt) hc).sound s (rl.2 j x _ hx (List.getElem?_eq_getElem hlt))⟩
 exact (h.run w _ vs s1 rl').mono fun e w' ⟨ie, g', H', m, s', r, q⟩ => ⟨ie, g', H', m1.tr m s s1, s', r, q⟩
theorem Gh.fz {tm tm' : Tm} {k : Nat} (h : ∀ i, FzK H k (tm i) (tm' i)) : Gh tm H tm' (H.del k) := fun w g s => by
  obtain ⟨s1, m1⟩ := s.T7 k
  exact ⟨_, m1, s1, fun a r i hi => (h i).sound s (r i hi)⟩
theorem FzK.upd {k d : Nat} {tm : Tm} {x : IV} (h : FzK H k (tm d) x) : ∀ i, FzK H k (tm i) (upd tm d x i) := fun i => by
  unfold Idl.upd
  split
  · rename_i e; subst e; exact h
  · exact .same _
theorem Sim.Ke {w : World} {g : Gs} (s : Sim w g H) {k : Nat} {o o' : HO} (hk : H.obj k = some o) (hsh : o'.sh = o.sh) (hr : Ct w g (g.mu k) o → Ct w g (g.mu k) o') : Sim w g (H.set k o') where
  nx := s.nx
  sh := fun i => by
    rw [s.sh]
    simp only [A0.sh, A0.set]
    split
    · rename_i e; subst e; rw [hk, Option.map_some, Option.map_some, hsh]
    · rfl
  lt := fun i hi => by
    simp only [A0.set] at hi ⊢
    split at hi
    · rename_i e; subst e; exact s.lt i (by rw [hk]; rfl)
    · exact s.lt i hi
  bk := s.bk
  inj := s.inj
  obj := fun i o1 h1 => by
    simp only [A0.set] at h1
    split at h1
    · rename_i e
      subst e
      cases h1
      exact hr (s.obj i _ hk)
    · exact s.obj i o1 h1
  old := s.old
  snap := s.snap
theorem Gh.Ke {k : Nat} {o o' : HO} (hk : H.obj k = some o) (hsh : o'.sh = o.sh) (hr : ∀ w g x, Ct w g x o → Ct w g x o') : Gh tm H tm (H.set k o') := fun w g s =>
  ⟨g, .refl w g, s.Ke hk hsh (hr w g _), fun _ r => r⟩
theorem Aj.gh {o : Oper} {K : IV → A0 → Prop} {Qp : List PanicEntry → A0 → Prop} {tm' : Tm} {H' : A0} (hg : Gh tm H tm' H') (hd : Bool) (h : Aj P N o tm' H' K Qp) : Aj P N o tm H K Qp := by
 refine ⟨h.nd, fun rr w g a s r hN => ?_⟩; obtain ⟨g1, m1, s1, r1⟩ := hg w g s; exact Cq (fun a' w' ⟨x, i, g', H', h1, h2, h3, h4, h5⟩ => ⟨x, i, g', H', h1, m1.tr h2 s s1, h3, h4, h5⟩)
  (fun e a' w' ⟨ch, g', H', h1, h2, h3, h4, h5⟩ => ⟨ch, g', H', h1, h2, m1.tr h3 s s1, h4, h5⟩) ⟨rr, rfl⟩ (h.run rr w g1 a s1 (r1 a r) hN)
inductive Rn (H J : A0) (ρ : Nat → Nat) (m : Nat) : IV → IV → Prop
  | same (i : IV) (h : NB m i) : Rn H J ρ m i i
  | any (i : IV) : Rn H J ρ m i .any
  | p (k off : Nat) (h : k < J.next) : Rn H J ρ m (.p (ρ k) off) (.p k off)
  | mp (k : Nat) (h : k < J.next) : Rn H J ρ m (.mp (ρ k)) (.mp k)
  | os (k n : Nat) (h : k < J.next) : Rn H J ρ m (.os (ρ k) n) (.os k n)
  | bs (k off n : Nat) (h : k < J.next) : Rn H J ρ m (.bs (ρ k) off n) (.bs k off n)
  | ag (cs cs' : List IV) (hl : cs'.length = cs.length) (h : ∀ (j : Nat) (c c' : IV), cs[j]? = some c → cs'[j]? = some c' → Rn H J ρ m c c') : Rn H J ρ m (.ag cs) (.ag cs')
  | tu (cs cs' : List IV) (hl : cs'.length = cs.length) (h : ∀ (j : Nat) (c c' : IV), cs[j]? = some c → cs'[j]? = some c' → Rn H J ρ m c c') : Rn H J ρ m (.tu cs) (.tu cs')
  | fn (f : Fn) (a b b' : List IV) (ha : a = []) (hl' : b'.length = b.length) (h' : ∀ (j : Nat) (c c' : IV), b[j]? = some c → b'[j]? = some c' → Rn H J ρ m c c') : Rn H J ρ m (.fn f a b) (.fn f a b')
inductive RnL (H J : A0) (ρ : Nat → Nat) (m : Nat) : List IV → List IV → Prop
  | nil : RnL H J ρ m [] []
  | cons {a b : IV} {l k : List IV} (h : Rn H J ρ m a b) (t : RnL H J ρ m l k) : RnL H J ρ m (a :: l) (b :: k)
theorem RnL.len {J : A0} {ρ : Nat → Nat} {m : Nat} {l k : List IV} (h : RnL H J ρ m l k) : k.length = l.length := by
 induction h with
 | nil => rfl
 | cons _ _ ih => simp [ih]
theorem RnL.get {J : A0} {ρ : Nat → Nat} {m : Nat} {l k : List IV} (h : RnL H J ρ m l k) : ∀ (j : Nat) (a b : IV), l[j]? = some a → k[j]? = some b → Rn H J ρ m a b := by
 induction h with
 | nil => intro j a b h; simp at h
 | cons h _ ih =>
  intro j a b h1 h2; cases j with
  | zero => simp at h1 h2; subst h1; subst h2; exact h
  | succ j => exact ih j a b (by simpa using h1) (by simpa using h2)
theorem RnL.same {J : A0} {ρ : Nat → Nat} {m : Nat} : ∀ {l : List IV}, (∀ c, c ∈ l → NB m c) → RnL H J ρ m l l
  | [], _ => .nil
  | _ :: _, h => .cons (.same _ (h _ (by simp))) (RnL.same fun c hc => h c (by simp [hc]))
inductive RnO (H J : A0) (ρ : Nat → Nat) (m : Nat) : HO → HO → Prop
  | cells (cs cs' : List IV) (h : RnL H J ρ m cs cs') : RnO H J ρ m (.cells cs) (.cells cs')
  | same (o : HO) (h : NBo m o) : RnO H J ρ m o o
  | ty (t : TypeId) (o o' : HO) (h : RnO H J ρ m o o') : RnO H J ρ m (.ty t o) (.ty t o')
theorem RnO.sh {J : A0} {ρ : Nat → Nat} {m : Nat} {o o' : HO} (h : RnO H J ρ m o o') : o'.sh = o.sh := by
 induction h with
 | cells => rfl
 | same => rfl
 | ty t o o' h ih => exact ih
structure FB (H0 H J : A0) (ρ : Nat → Nat) : Prop where
  lo : H0.next ≤ J.next
  id : ∀ k, k < H0.next → ρ k = k
  le : H0.next ≤ H.next
  lt : ∀ k o, J.obj k = some o → k < J.next
  hi : ∀ k, k < J.next → ρ k < H.next
  inj : ∀ k k', (J.obj k).isSome = true → (J.obj k').isSome = true → ρ k = ρ k' → k = k'
  obj : ∀ k o', J.obj k = some o' → (H0.obj k = some o' ∧ H.obj (ρ k) = some o') ∨ ∃ o, H.obj (ρ k) = some o ∧ RnO H J ρ H0.next o o'
  sn : J.sn = H0.sn
def Kf (g : Gs) (J : A0) (ρ : Nat → Nat) : Gs := { oth := g.oth, mu := fun k => g.mu (ρ k), sh := J.sh, nx := J.next }
section
variable {H0 J : A0} {ρ : Nat → Nat} {w : World} {g : Gs}
theorem FB.shs (h : FB H0 H J ρ) (s : Sim w g H) : ∀ k q, J.sh k = some q → g.sh (ρ k) = some q := by
 intro k q hq; simp only [A0.sh, Option.map_eq_some_iff] at hq; obtain ⟨o', h1, rfl⟩ := hq; rcases h.obj k o' h1 with ⟨_, h2⟩ | ⟨o, h2, h3⟩
 ·rw [s.sh, A0.sh, h2, Option.map_some]
 ·rw [s.sh, A0.sh, h2, Option.map_some, h3.sh]
theorem FB.ow (h : FB H0 H J ρ) (s : Sim w g H) {b : Nat} (hb : (Kf g J ρ).ow b) : g.ow b := by
 rcases hb with hb | ⟨k, h1, h2⟩
 ·exact .inl hb
 ·obtain ⟨q, hq⟩ := Option.isSome_iff_exists.1 h1; exact .inr ⟨ρ k, by rw [h.shs s k q hq]; rfl, h2⟩
theorem FB.Jx (h : FB H0 H J ρ) (s : Sim w g H) {x : Value} {i : IV} (hx : R w g x i) (hn : NB H0.next i) : R w (Kf g J ρ) x i := by
 have low : ∀ k, k < H0.next → k < J.next := fun k hk => Nat.lt_of_lt_of_le hk h.lo; have shl : ∀ k q, k < H0.next → (Kf g J ρ).sh k = some q → g.sh k = some q := fun k q hk hq => by
  have := h.shs s k q hq
  rwa [h.id k hk] at this
 have mul : ∀ k, k < H0.next → (Kf g J ρ).mu k = g.mu k := fun k hk => by simp [Kf, h.id k hk]
 induction hx with
 | v x => exact .v x
 | any x => exact .any x
 | sl0 a cap sz => exact .sl0 a cap sz
 | blk b xs el f x hb h1 => exact .blk b xs el f x (fun e => hb (h.ow s e)) h1
 | sl b off cap sz es cv hb hlt hlen hcap hsz hc ho _ ih =>
  exact .sl b off cap sz es cv (fun e => hb (h.ow s e)) hlt hlen hcap hsz hc ho fun i e j c h1 h2 => ih i e j c h1 h2 ((S5.1 hn) e (List.mem_of_getElem? h1) c (List.mem_of_getElem? h2))
 | cp b off cs cv hb hlt hc ho _ ih => exact .cp b off cs cv (fun e => hb (h.ow s e)) hlt hc ho fun j c h1 => ih j c h1 (by cases hn with | cp _ q => exact q c (List.mem_of_getElem? h1))
 | ag xs cs hl ho _ ih => exact .ag xs cs hl ho fun j x c h1 h2 => ih j x c h1 h2 ((VW.1 hn) c (List.mem_of_getElem? h2))
 | tu xs cs hl _ ih => exact .tu xs cs hl fun j x c h1 h2 => ih j x c h1 h2 ((VX.1 hn) c (List.mem_of_getElem? h2))
 | fn f xs ys fi ca hl hl' _ _ ih ih' => exact .fn f xs ys fi ca hl hl' (fun j x c h1 h2 => ih j x c h1 h2 ((S6.1 hn).1 c (List.mem_of_getElem? h2))) fun j x c h1 h2 => ih' j x c h1 h2 ((S6.1 hn).2 c (List.mem_of_getElem? h2))
 | ifc t x c _ ih => exact .ifc t x c (ih (by cases hn with | ifc _ _ q => exact q))
 | p k off x hk hx hh =>
  have hk' := XT.1 hn; exact .p k off x (low k hk') hx fun q hq e => by rw [mul k hk']; exact hh q (shl k q hk' hq) e
 | mp k x hk hx hh =>
  have hk' := V_.1 hn; exact .mp k x (low k hk') hx fun q hq e => by rw [mul k hk']; exact hh q (shl k q hk' hq) e
 | os k n x hk hh hx =>
  have hk' := VY.1 hn; exact .os k n x (low k hk') (fun m hm => by rw [mul k hk']; exact hh m (shl k _ hk' hm)) hx
 | pr k n off x hk hx hh =>
  have hk' : k < H0.next := by cases hn with | pr _ _ _ q => exact q
  exact .pr k n off x (low k hk') hx fun m hm => by rw [mul k hk']; exact hh m (shl k _ hk' hm)
 | bs k off n x hk hx hh =>
  have hk' := VZ.1 hn; exact .bs k off n x (low k hk') hx fun q hq e => by rw [mul k hk']; exact hh q (shl k q hk' hq) e
theorem Rn.sound (h : FB H0 H J ρ) (s : Sim w g H) {i i' : IV} (r : Rn H J ρ H0.next i i') : ∀ {x : Value}, R w g x i → R w (Kf g J ρ) x i' := by
 induction r with
 | same i hn => exact fun hx => h.Jx s hx hn
 | any i => exact fun _ => .any _
 | p k off hk =>
  intro x hx; obtain ⟨_, h1, h2⟩ := hx.Jo; exact .p k off x hk h1 fun q hq e => h2 q (h.shs s k q hq) e
 | mp k hk =>
  intro x hx; cases hx with
  | mp _ _ _ h1 h2 => exact .mp k x hk h1 fun q hq e => h2 q (h.shs s k q hq) e
 | os k n hk =>
  intro x hx; cases hx with
  | os _ _ _ _ h1 h2 => exact .os k n x hk (fun m hm => h1 m (h.shs s k _ hm)) h2
 | bs k off n hk =>
  intro x hx; cases hx with
  | bs _ _ _ _ _ h1 h2 => exact .bs k off n x hk h1 fun q hq e => h2 q (h.shs s k q hq) e
 | ag cs cs' hl _ ih =>
  intro x hx; cases hx with
  | ag xs _ hl2 ho hr =>
   refine .ag xs cs' (by rw [hl2, hl]) ho fun j y c' h1 h2 => ?_; obtain ⟨c, hc⟩ := BD hl h2; exact ih j c c' hc h2 (hr j y c h1 hc)
 | tu cs cs' hl _ ih =>
  intro x hx; cases hx with
  | tu xs _ hl2 hr =>
   refine .tu xs cs' (by rw [hl2, hl]) fun j y c' h1 h2 => ?_; obtain ⟨c, hc⟩ := BD hl h2; exact ih j c c' hc h2 (hr j y c h1 hc)
 | fn f a b b' ha hl' _ ih =>
  subst ha; intro x hx; cases hx with
  | fn _ xs ys _ _ hl2 hl3 hr hr' =>
   refine .fn f xs ys [] b' hl2 (by rw [hl3, hl']) (fun j y c h1 h2 => by simp at h2) fun j y c' h1 h2 => ?_; obtain ⟨c, hc⟩ := BD hl' h2; exact ih j c c' hc h2 (hr' j y c h1 hc)
theorem RnO.sound (h : FB H0 H J ρ) (s : Sim w g H) {o o' : HO} (r : RnO H J ρ H0.next o o') {x : Value} (hx : Ct w g x o) : Ct w (Kf g J ρ) x o' := by
 induction r with
 | cells cs cs' hl =>
  obtain ⟨b, xs, el, f, h1, h2, h3, hc⟩ := hx; refine ⟨b, xs, el, f, h1, h2, h3, by rw [hl.len]; exact hc.1, fun j c' hj => ?_⟩; obtain ⟨c, hcj⟩ := BD hl.len hj; obtain ⟨y, q1, q2, q3⟩ := hc.2 j c hcj; exact ⟨y, q1, q2, (hl.get j c c' hcj hj).sound h s q3⟩
 | same o hn =>
  induction o with
  | cells cs =>
   obtain ⟨b, xs, el, f, h1, h2, h3, hc⟩ := hx; exact ⟨b, xs, el, f, h1, h2, h3, hc.1, fun j c hj => let ⟨y, q1, q2, q3⟩ := hc.2 j c hj; ⟨y, q1, q2, h.Jx s q3 (hn c (List.mem_of_getElem? hj))⟩⟩
  | row sz es =>
   obtain ⟨a, cap, h1, h2, h3, h4, h5, h6⟩ := hx; refine ⟨a, cap, h1, h2, h3, h4, h5, ?_⟩; rcases h6 with h6 | ⟨b, xs, el, f, h7, h8, h9, h10, hc⟩
   ·exact .inl h6
   ·refine .inr ⟨b, xs, el, f, h7, h8, h9, h10, hc.1, fun j c hj => let ⟨y, q1, q2, q3⟩ := hc.2 j c hj; ⟨y, q1, q2, h.Jx s q3 ?_⟩⟩; obtain ⟨e, he, hce⟩ := List.mem_flatten.1 (List.mem_of_getElem? hj); exact hn e he c hce
  | obj o => exact hx
  | map es =>
   obtain ⟨b, ents, clock, h1, h2, h3⟩ := hx; exact ⟨b, ents, clock, h1, h2, h3.imp fun y e he hy => h.Jx s hy (hn e he)⟩
  | Dx bs c es =>
   obtain ⟨b, ents, h1, h2, h3, h4⟩ := hx; exact ⟨b, ents, h1, h2, h3.imp fun y e he hy => h.Jx s hy (hn e he), h4⟩
  | it km since seen c =>
   obtain ⟨b, bm, h1, h2, h3⟩ := hx; exact ⟨b, bm, h1, h2, h.Jx s h3 (.mp _ hn)⟩
  | ty t o ih => exact ⟨ih hn hx.1, hx.2⟩
 | ty t o o' hr ih =>
  refine ⟨ih hx.1, fun b hb => ?_⟩; obtain ⟨xs, h1, h2⟩ := hx.2 b hb; refine ⟨xs, h1, fun cs e => ?_⟩; subst e; cases hr with
  | cells cs0 _ hl => rw [h2 cs0 rfl, hl.len]
  | same => exact h2 cs rfl
theorem FB.Y3 (h : FB H0 H J ρ) {r r' : IV} (hr : Rn H J ρ H0.next r r') : Vz H0 H r J r' := by
 intro w0 g0 w g s0 m s; have hm : AB w0 g0 w (Kf g J ρ) := by
  refine ⟨m.size, m.os, m.tape, m.output, m.keep, fun b hb ho => m.own b hb (h.ow s ho), m.oth, by show g0.nx ≤ J.next; rw [s0.nx]; exact h.lo, ?_, ?_⟩
  ·intro k hk hf; have hk' : k < H0.next := by rw [← s0.nx]; exact hk
   have h1 := h.shs s k _ hf; rw [h.id k hk'] at h1; have h2 := m.fx k hk h1; exact ⟨h2.1, by show g.mu (ρ k) = _; rw [h.id k hk']; exact h2.2⟩
  ·intro k m' hk hf; have hk' : k < H0.next := by rw [← s0.nx]; exact hk
   have h1 := h.shs s k _ hf; rw [h.id k hk'] at h1; obtain ⟨m1, h2, h3, h4⟩ := m.row k m' hk h1; exact ⟨m1, h2, h3, fun e => by show g.mu (ρ k) = _; rw [h.id k hk']; exact h4 e⟩
 refine ⟨Kf g J ρ, hm, ⟨rfl, fun _ => rfl, ?_, ?_, ?_, ?_, s.old, fun p hp i hi => (s0.snap p (by rw [← h.sn]; exact hp) i hi).mono hm⟩, fun x hx => hr.sound h s hx⟩
 ·intro k hk; obtain ⟨o, ho⟩ := Option.isSome_iff_exists.1 hk; exact h.lt k o ho
 ·intro k b h1 h2; obtain ⟨q, hq⟩ := Option.isSome_iff_exists.1 h1; exact s.bk (ρ k) b (by rw [h.shs s k q hq]; rfl) h2
 ·intro k k' b h1 h2 h3 h4; obtain ⟨q, hq⟩ := Option.isSome_iff_exists.1 h1; obtain ⟨q', hq'⟩ := Option.isSome_iff_exists.1 h2; have e := s.inj (ρ k) (ρ k') b (by rw [h.shs s k q hq]; rfl) (by rw [h.shs s k' q' hq']; rfl) h3 h4; refine h.inj k k' ?_ ?_ e
  ·have hq : (J.obj k).map HO.sh = some q := hq; obtain ⟨o, ho, _⟩ := Option.map_eq_some_iff.1 hq; rw [ho]; rfl
  ·have hq' : (J.obj k').map HO.sh = some q' := hq'; obtain ⟨o, ho, _⟩ := Option.map_eq_some_iff.1 hq'; rw [ho]; rfl
 ·intro k o' ho'; rcases h.obj k o' ho' with ⟨h0, h1⟩ | ⟨o, h1, h2⟩
  ·have hn := (s0.obj k o' h0).nb; rw [s0.nx] at hn; exact (RnO.same o' hn).sound h s (s.obj (ρ k) o' h1)
  ·exact h2.sound h s (s.obj (ρ k) o h1)
end
end Go.Idl
namespace Go.Idl
open Go Go.RowKit
variable {P : Program} {N : Nat} {tm : Tm} {H : A0}
theorem Bf.put {w : World} {g : Gs} {B r : Nat} : ∀ (l : List Deferred), (∀ d', d' ∈ l → d'.target ≠ .collected r) → Bf none B w g l → Bf none B (w.putObj r (.deferred none)) g l
  | [], _, _ => fun _ e => by cases e
  | e :: l, hne, ⟨⟨q, q1, q2, q3, q4, q5, q6⟩, q7⟩ => by
    refine ⟨⟨q, q1, q2, by simpa using q3, ?_, q5, q6⟩, Bf.put l (fun d' hd => hne d' (List.mem_cons_of_mem _ hd)) q7⟩
    rw [← q4]
    refine World.putObj_heap_other fun e' => ?_
    subst e'
    exact hne e (by simp) (by rw [q1])
theorem Agr.tr {w w1 w2 : World} {g : Gs} (h : Agr w w1 g) (k : Agr w1 w2 g) : Agr w w2 g := by
 refine ⟨by rw [k.size, h.size], k.os.trans h.os, k.tape.trans h.tape, k.output.trans h.output, fun b xs el f hb => ?_, fun b hb => (k.own b hb).trans (h.own b hb)⟩; have e1 := h.cells b xs el f hb; exact (k.cells b xs el f (e1.trans hb)).trans e1
theorem FC {fn : Func} {tmps : Array Value} {R' : Ending → World → Prop} {u : FrameMode} {B : Nat} {w0 : World} (hB : w0.heap.size ≤ B) (hu : u ≠ .run) (D : List Deferred) : ∀ (ms : List Deferred) {w : World} {g g0 : Gs},
    Bf none B w g ms → AB w0 g0 w g → (∀ w', Agr w w' g → (∀ b, b < B → w'.heap[b]? = w.heap[b]?) → AB w0 g0 w' g → LeavesInM (FR none) 0 P fn tmps R' D u w') → LeavesInM (FR none) 0 P fn tmps R' (ms ++ D) u w
  | [], w, g, g0, _, m0, k => k w (.refl w g) (fun _ _ => rfl) m0
  | d :: ds, w, g, g0, ⟨⟨r, h1, h2, h3, h4, h5, h6⟩, hm⟩, m0, k => by
    refine ⟨hu, .inl ⟨r, _, by rw [h1], run_takeDeferred h4, ?_⟩⟩
    have hag : Agr w (w.putObj r (.deferred none)) g := by
      refine ⟨by simp, rfl, rfl, rfl, fun b xs el f hb => ?_, fun b hb => ?_⟩
      · exact World.putObj_heap_other (fun e => by subst e; rw [h4] at hb; cases hb)
      · exact World.putObj_heap_other (fun e => by subst e; exact h5 (.inr hb))
    have hm0 : AB w0 g0 (w.putObj r (.deferred none)) g := by
      refine ⟨by simpa using m0.size, m0.os, m0.tape, m0.output, fun b hb hn => ?_, m0.own, m0.oth, m0.nx, m0.fx, m0.row⟩
      rw [← m0.keep b hb hn]
      exact World.putObj_heap_other (by omega)
    refine FC hB hu D ds (hm.put ds h6) hm0 fun w' a' low m' => k w' (hag.tr a') (fun b hb => ?_) m'
    rw [low b hb]
    exact World.putObj_heap_other (by omega)
structure GD where
  f : FuncId
  cap : List IV
  args : List IV
def DR (w : World) (g : Gs) (d : Deferred) (q : GD) : Prop := ∃ cap, d.target = .fn (.func q.f) cap ∧ RL w g cap q.cap ∧ RL w g d.args q.args
theorem DR.mono {w w' : World} {g g' : Gs} (m : AB w g w' g') {d : Deferred} {q : GD} : DR w g d q → DR w' g' d q := fun ⟨c, h1, h2, h3⟩ => ⟨c, h1, h2.mono m, h3.mono m⟩
theorem RL.agr {w w' : World} {g : Gs} (h : Agr w w' g) {xs : Array Value} {is : List IV} (k : RL w g xs is) : RL w' g xs is := ⟨k.1, fun j x c h1 h2 => (k.2 j x c h1 h2).agr h⟩
theorem DR.agr {w w' : World} {g : Gs} (m : Agr w w' g) {d : Deferred} {q : GD} : DR w g d q → DR w' g d q := fun ⟨c, h1, h2, h3⟩ => ⟨c, h1, h2.agr m, h3.agr m⟩
def DM (B0 : Nat) (w : World) (g : Gs) : Nat → List GD → List Deferred → Prop
  | B, [], ds => B0 ≤ B ∧ Bf none B w g ds
  | B, q :: dl, ds => B0 ≤ B ∧ ∃ ms d rest B', ds = ms ++ d :: rest ∧ Bf none B w g ms ∧ DR w g d q ∧ (∀ d', d' ∈ rest → ∀ r, d'.target = .collected r → r < B) ∧ DM B0 w g B' dl rest
theorem DM.mono {B0 : Nat} {w w' : World} {g g' : Gs} (m : AB w g w' g') : ∀ {dl : List GD} {B : Nat} {ds : List Deferred}, DM B0 w g B dl ds → DM B0 w' g' B dl ds
  | [], _, _, ⟨h0, h⟩ => ⟨h0, h.mono m⟩
  | _ :: _, _, _, ⟨h0, ms, d, rest, B', h1, h2, h3, h4, h5⟩ => ⟨h0, ms, d, rest, B', h1, h2.mono m, h3.mono m, h4, h5.mono m⟩
theorem Bf.low {w w' : World} {g : Gs} {B B1 : Nat} (a : Agr w w' g) (low : ∀ b, b < B1 → w'.heap[b]? = w.heap[b]?) : ∀ {ds : List Deferred}, (∀ d', d' ∈ ds → ∀ r, d'.target = .collected r → r < B1) → Bf none B w g ds → Bf none B w' g ds
  | [], _, _ => fun _ e => by cases e
  | d :: ds, hl, ⟨⟨q, q1, q2, q3, q4, q5, q6⟩, q7⟩ =>
    ⟨⟨q, q1, q2, by rw [a.size]; exact q3, (low q (hl d (by simp) q (by rw [q1]))).trans q4, q5, q6⟩, Bf.low a low (fun d' hd => hl d' (List.mem_cons_of_mem _ hd)) q7⟩
theorem DM.low {B0 : Nat} {w w' : World} {g : Gs} {B1 : Nat} (a : Agr w w' g) (low : ∀ b, b < B1 → w'.heap[b]? = w.heap[b]?) : ∀ {dl : List GD} {B : Nat} {ds : List Deferred}, (∀ d', d' ∈ ds → ∀ r, d'.target = .collected r → r < B1) → DM B0 w g B dl ds → DM B0 w' g B dl ds
  | [], _, _, hl, ⟨h0, h⟩ => ⟨h0, h.low a low hl⟩
  | _ :: _, _, _, hl, ⟨h0, ms, d, rest, B', h1, h2, h3, h4, h5⟩ => by
    subst h1
    exact ⟨h0, ms, d, rest, B', rfl, h2.low a low (fun d' hd => hl d' (by simp [hd])), h3.agr a, h4, h5.low a low (fun d' hd => hl d' (by simp [hd]))⟩
theorem Bf.lt' {B : Nat} {w : World} {g : Gs} : ∀ {ds : List Deferred}, Bf none B w g ds → ∀ d, d ∈ ds → ∀ r, d.target = .collected r → r < w.heap.size
  | [], _, _, hd, _, _ => by cases hd
  | d :: ds, ⟨⟨q, q1, q2, q3, q4, q5, q6⟩, q7⟩, e, he, r, hr => by
    rcases List.mem_cons.1 he with e1 | e1
    · subst e1
      rw [q1] at hr
      simp only [Target.collected.injEq] at hr
      omega
    · exact Bf.lt' q7 e e1 r hr
theorem DM.lt {B0 : Nat} {w : World} {g : Gs} : ∀ {dl : List GD} {B : Nat} {ds : List Deferred}, B ≤ w.heap.size → DM B0 w g B dl ds → ∀ d, d ∈ ds → ∀ r, d.target = .collected r → r < w.heap.size
  | [], _, _, _, ⟨_, h⟩, d, hd, r, hr => h.lt' d hd r hr
  | _ :: _, _, _, hB, ⟨h0, ms, d, rest, B', h1, h2, h3, h4, h5⟩, e, he, r, hr => by
    subst h1
    rcases List.mem_append.1 he with he | he
    · exact h2.lt' e he r hr
    · rcases List.mem_cons.1 he with he | he
      · subst he
        obtain ⟨c, q, _⟩ := h3
        rw [q] at hr; cases hr
      · exact Nat.lt_of_lt_of_le (h4 e he r hr) hB
structure AX (P : Program) (f : FuncId) (args : List IV) (u : FrameMode) (H : A0) (Q : An → FrameMode → A0 → Prop) : Prop where
  body : Bq P f = true
  run : ∀ (w : World) (g : Gs) (vs : Array Value), Sim w g H → RL w g vs args →
    CallsDIn (FR none) 0 P f vs u w fun e u' w' => ∃ ie g' H', AB w g w' g' ∧ Sim w' g' H' ∧ RE w' g' e ie ∧ Q ie u' H'
theorem AX.mono {f : FuncId} {args : List IV} {u : FrameMode} {Q Q' : An → FrameMode → A0 → Prop} (h : AX P f args u H Q) (hq : ∀ e u H', Q e u H' → Q' e u H') : AX P f args u H Q' :=
  ⟨h.body, fun w g vs s r => (h.run w g vs s r).mono fun e u' w' ⟨ie, g', H', h1, h2, h3, h4⟩ => ⟨ie, g', H', h1, h2, h3, hq _ _ _ h4⟩⟩
def lvQ (K : FrameMode → A0 → Prop) : An → FrameMode → A0 → Prop
  | .ret _, u, H => K (settle u) H
  | .pan ch, u, H => K (raised u ch) H
def LvD (P : Program) (rs : List ResultVar) (H0 : A0) (Q : An → A0 → Prop) (tm : Tm) : List GD → FrameMode → A0 → Prop
  | [], .returning, H => K7 P rs H0 Q tm H
  | [], .panicking ch, H => (∃ J, Cw H0 H J ∧ Q (.pan ch) J) ∨ Q (.pan ch) H
  | [], .run, _ => False
  | q :: dl, u, H => u ≠ .run ∧ AX P q.f (q.args ++ q.cap) u H (lvQ (LvD P rs H0 Q tm dl))
theorem LvD.ne {rs : List ResultVar} {H0 : A0} {Q : An → A0 → Prop} {dl : List GD} {u : FrameMode} (h : LvD P rs H0 Q tm dl u H) : u ≠ .run := by
 cases dl with
 | nil =>
  cases u with
  | run => exact h.elim
  | _ => simp
 | cons q dl => exact h.1
theorem Ey {fn : Func} {H0 : A0} {Q : An → A0 → Prop} {w0 : World} {g0 : Gs} (s0 : Sim w0 g0 H0) {tmps : Array Value} (hrn : ∀ r, r ∈ fn.results.toList → rvN tmps.size r = true) :
    ∀ (dl : List GD) {B : Nat} {ds : List Deferred} {u : FrameMode} {w : World} {g : Gs} {H : A0}, DM w0.heap.size w g B dl ds → AB w0 g0 w g → Sim w g H → (∀ i, i < tmps.size → R w g (tmps.getD i undef) (tm i)) →
      LvD P fn.results.toList H0 Q tm dl u H → LeavesInM (FR none) 0 P fn tmps (fun e w' => ∃ ie g' H', AB w0 g0 w' g' ∧ Sim w' g' H' ∧ RE w' g' e ie ∧ Q ie H') ds u w
  | [], B, ds, u, w, g, H, ⟨hB, hm⟩, m, s, ra, hl => by
    have hu := hl.ne
    rw [← List.append_nil ds]
    refine FC hB hu [] ds hm m fun w'' ag _ m'' => ?_
    have s'' := s.agr ag
    cases u with
    | run => exact hl.elim
    | returning =>
      obtain ⟨st, is, h1, h2, h3⟩ := hl
      obtain ⟨v, q1, q2⟩ := Ew (P := P) s'' (fun i hi => (ra i hi).agr ag) hrn h1 h2
      rcases h3 with ⟨r', J, h3, h4, h5⟩ | ⟨r', J, h3 | h3, h5⟩
      · obtain ⟨sJ, mJ⟩ := h3.sim s0 m'' s''
        exact ⟨v, q1, _, _, J, mJ, sJ, .ret _ _ (h4.sound s'' h3.sub q2), h5⟩
      · obtain ⟨g3, m3, s3, h4⟩ := h3 w'' g s''
        exact ⟨v, q1, _, _, J, m''.tr m3 s0 s'', s3, .ret _ _ (h4 _ q2), h5⟩
      · obtain ⟨g3, m3, s3, h4⟩ := h3 w0 g0 w'' g s0 m'' s''
        exact ⟨v, q1, _, _, J, m3, s3, .ret _ _ (h4 _ q2), h5⟩
    | panicking ch =>
      rcases hl with ⟨J, h3, h5⟩ | h5
      · obtain ⟨sJ, mJ⟩ := h3.sim s0 m'' s''
        exact ⟨_, _, J, mJ, sJ, .pan _, h5⟩
      · exact ⟨_, _, H, m'', s'', .pan _, h5⟩
  | q :: dl, B, ds, u, w, g, H, ⟨hB, ms, d, rest, B', h1, h2, h3, h4, h5⟩, m, s, ra, hl => by
    subst h1
    obtain ⟨hu, hcall⟩ := hl
    refine FC hB hu (d :: rest) ms h2 m fun w'' ag low m'' => ?_
    have s'' := s.agr ag
    obtain ⟨cap, t1, t2, t3⟩ := h3.agr ag
    refine ⟨hu, .inr ⟨fun hd => by simp [FR] at hd, .func q.f, cap, q.f, d.args ++ cap, t1, ?_, fun _ _ => trivial, ?_⟩⟩
    · rw [t1]
      simp [invoke, G2 hcall.body]
    · refine (hcall.run w'' g _ s'' (Jt t3 t2)).mono ?_
      rintro e u' w' ⟨ie, g', H', m', s', hre, hq⟩
      have hd := (h5.low ag low h4).mono m'
      have ra' : ∀ i, i < tmps.size → R w' g' (tmps.getD i undef) (tm i) := fun i hi => ((ra i hi).agr ag).mono m'
      cases hre with
      | ret v i hr => exact Ey s0 hrn dl hd (m''.tr m' s0 s'') s' ra' hq
      | pan ch => exact Ey s0 hrn dl hd (m''.tr m' s0 s'') s' ra' hq
structure FD (P : Program) (N : Nat) (c : Code) (Q : Exit → Tm → A0 → List GD → Prop) (tm : Tm) (H : A0) (dl : List GD) : Prop where
  run : ∀ (B0 B : Nat) (w : World) (g : Gs) (a : Act), Sim w g H → RA w g a tm → a.tmps.size = N → B ≤ w.heap.size → DM B0 w g B dl a.defers →
    c.wpIn (FR none) 0 P (fun e a' w' => ∃ tm' g' H' dl' B', AB w g w' g' ∧ Sim w' g' H' ∧ RA w' g' a' tm' ∧ a'.tmps.size = N ∧ B' ≤ w'.heap.size ∧ DM B0 w' g' B' dl' a'.defers ∧ e ≠ .outgrown ∧ Q e tm' H' dl') a w
theorem FD.of {c : Code} {Q : Exit → Tm → A0 → List GD → Prop} {dl : List GD} (h : IWp P N c (fun e tm H => Q e tm H dl) tm H) : FD P N c Q tm H dl := by
 refine ⟨fun B0 B w g a s r hN hB hm => ?_⟩; cases dl with
 | nil =>
  obtain ⟨hB0, hm⟩ := hm; refine wpIn_mono (h.run none B [] w g a s r hN hB ⟨a.defers, by simp, hm⟩) ?_
  rintro e a' w' ⟨tm', g', H', m, s', r', n', ⟨ms, e1, e2⟩, ne, q⟩
  exact ⟨tm', g', H', [], B, m, s', r', n', Nat.le_trans hB m.size, ⟨hB0, by rw [e1, List.append_nil]; exact e2⟩, ne, q⟩
 | cons d0 dl =>
  obtain ⟨hB0, ms, d, rest, B', h1, h2, h3, h4, h5⟩ := hm; refine wpIn_mono (h.run none B (d :: rest) w g a s r hN hB ⟨ms, h1, h2⟩) ?_
  rintro e a' w' ⟨tm', g', H', m, s', r', n', ⟨ms', e1, e2⟩, ne, q⟩
  exact ⟨tm', g', H', d0 :: dl, B, m, s', r', n', Nat.le_trans hB m.size, ⟨hB0, ms', d, rest, B', e1, e2, h3.mono m, h4, h5.mono m⟩, ne, q⟩
def Iu (K : Tm → A0 → List GD → Prop) (Q : Exit → Tm → A0 → List GD → Prop) : Exit → Tm → A0 → List GD → Prop
  | .normal, tm, H, dl => K tm H dl
  | .exit id, tm, H, dl => Q (.exit id) tm H dl
  | .goto l, tm, H, dl => Q (.goto l) tm H dl
  | .ret, tm, H, dl => Q .ret tm H dl
  | .panic ch, tm, H, dl => Q (.panic ch) tm H dl
  | .outgrown, tm, H, dl => Q .outgrown tm H dl
theorem OV {x y : Code} {Q : Exit → Tm → A0 → List GD → Prop} {dl : List GD} (h : FD P N x (Iu (fun tm H dl => FD P N y Q tm H dl) Q) tm H dl) : FD P N (.seq x y) Q tm H dl := by
 refine ⟨fun B0 B w g a s r hN hB hm => wpIn_seq (wpIn_mono (h.run B0 B w g a s r hN hB hm) ?_)⟩
 rintro e a1 w1 ⟨tm1, g1, H1, dl1, B1, m1, s1, r1, n1, b1, k1, ne, q⟩
 cases e with
 | normal =>
  refine wpIn_mono (q.run B0 B1 w1 g1 a1 s1 r1 n1 b1 k1) ?_
  rintro e a2 w2 ⟨tm2, g2, H2, dl2, B2, m2, rest⟩
  exact ⟨tm2, g2, H2, dl2, B2, m1.tr m2 s s1, rest⟩
 | outgrown => exact absurd rfl ne
 | exit id => exact ⟨tm1, g1, H1, dl1, B1, m1, s1, r1, n1, b1, k1, ne, q⟩
 | goto id => exact ⟨tm1, g1, H1, dl1, B1, m1, s1, r1, n1, b1, k1, ne, q⟩
 | ret => exact ⟨tm1, g1, H1, dl1, B1, m1, s1, r1, n1, b1, k1, ne, q⟩
 | panic id => exact ⟨tm1, g1, H1, dl1, B1, m1, s1, r1, n1, b1, k1, ne, q⟩
def OW (P : Program) (rs : List ResultVar) (H0 : A0) (Q : An → A0 → Prop) : Exit → Tm → A0 → List GD → Prop
  | .normal, tm, H, dl => LvD P rs H0 Q tm dl .returning H
  | .ret, tm, H, dl => LvD P rs H0 Q tm dl .returning H
  | .panic ch, tm, H, dl => LvD P rs H0 Q tm dl (.panicking ch) H
  | .exit _, _, _, _ => False
  | .goto _, _, _, _ => False
  | .outgrown, _, _, _ => False
theorem OX {w : World} {g : Gs} {args : List IV} {vs : Array Value} {n : Nat} (rl : RL w g vs args) : ∀ i, i < (vs ++ Array.replicate (n - vs.size) undef).size → R w g ((vs ++ Array.replicate (n - vs.size) undef).getD i undef) (tm0 args i) := by
 intro i hi; rcases Nat.lt_or_ge i vs.size with hlt | hge
 ·have hil : i < args.length := by rw [← rl.1]; exact hlt
  have := rl.2 i vs[i] args[i] (Array.getElem?_eq_getElem hlt) (List.getElem?_eq_getElem hil); have e1 : (vs ++ Array.replicate (n - vs.size) undef).getD i undef = vs[i] := by
   rw [Array.getD_eq_getD_getElem?, Array.getElem?_append_left hlt]; simp [hlt]
  have e2 : tm0 args i = args[i] := by simp [tm0, hil]
  rw [e1, e2]; exact this
 ·have hil : ¬ i < args.length := by rw [← rl.1]; omega
  have e1 : (vs ++ Array.replicate (n - vs.size) undef).getD i undef = undef := by
   rw [Array.getD_eq_getD_getElem?, Array.getElem?_append_right hge, Array.getElem?_replicate]; split <;> rfl
  have e2 : tm0 args i = .v undef := by simp [tm0, List.getElem?_eq_none (by omega : args.length ≤ i)]
  rw [e1, e2]; exact .v _
theorem Iv {f : FuncId} {fn : Func} {c : Code} {args : List IV} {Q : An → A0 → Prop} (hbd : Bq P f = true) (hf : P.funcs[f]? = some fn) (hb : fn.body = some c) (hn : args.length ≤ fn.ntmps) (hr : (fn.results.toList.all (rvN fn.ntmps)) = true)
    (h : H.Wf → FD P fn.ntmps c (OW P fn.results.toList H Q) (tm0 args) H []) : A2 P f args H Q := by
 refine ⟨hbd, fun w g vs s rl => ?_⟩; have hN : (vs ++ Array.replicate (fn.ntmps - vs.size) undef).size = fn.ntmps := by
  have := rl.1; simp; omega
 refine callsIn_wide.1 (callsIn_of_wp_marks (F := FR none) (n := 0) hf hb trivial (wpIn_mono ((h s.wf).run w.heap.size w.heap.size w g { tmps := vs ++ Array.replicate (fn.ntmps - vs.size) undef, defers := [] } s (OX rl) hN (Nat.le_refl _) ⟨Nat.le_refl _, fun r e => by cases e⟩) ?_))
 rintro e a' w' ⟨tm', g', H', dl', B', m, s', ra, hN', hB', hm, hne, hq⟩
 have hrn : ∀ r, r ∈ fn.results.toList → rvN a'.tmps.size r = true := by
  rw [hN']; exact List.all_eq_true.1 hr
 cases e with
 | normal => exact Ey s hrn dl' hm m s' ra hq
 | ret => exact Ey s hrn dl' hm m s' ra hq
 | panic ch => exact Ey s hrn dl' hm m s' ra hq
 | exit id => exact hq.elim
 | goto id => exact hq.elim
 | outgrown => exact hq.elim
end Go.Idl
namespace Go.Idl
open Go Go.RowKit
variable {P : Program} {N : Nat} {tm : Tm} {H : A0}
def FE (P : Program) (R : World → Prop) : List Deferred → World → Prop
  | [], w => R w
  | d :: ds, w => ∃ r w', d.target = .collected r ∧ (Instr.takeDeferred r).run P w = .ok [] w' ∧ FE P R ds w'
theorem DF {F : Fence} {n : Nat} {R : World → Prop} : ∀ (ds : List Deferred) (w : World) (fr : Frame) (cs : List Frame), fr.mode ≠ .run → fr.defers = ds → F.fn fr.fn → F.room (cs.length + 1 + n) → FE P R ds w →
    ∃ w', R w' ∧ StepsIn (Machine.fenced P F) P (lone fr cs w) (lone { fr with defers := [] } cs w')
  | [], w, fr, cs, _, hd, _, _, h => ⟨w, h, by cases fr; simp only at hd; subst hd; exact .refl _⟩
  | d :: ds, w, fr, cs, hm, hd, hb, hr, ⟨r, w', ht, hk, h⟩ => by
    have h1 := step_collected (cs := cs) hm hd ht hk
    have i1 : (lone fr cs w).fenced P F := fenced_out hb hr hm hd (fun g hg => by rw [ht] at hg; simp [Target.leads] at hg)
    obtain ⟨w'', q1, q2⟩ := DF ds w' { fr with defers := [] ++ ds } cs hm rfl hb hr h
    exact ⟨w'', q1, StepsIn.trans (.one i1 h1) q2⟩
theorem Ez {B : Nat} {w0 : World} (hB : w0.heap.size ≤ B) {R : World → Prop} : ∀ (ds : List Deferred) {w : World} {g g0 : Gs}, Bf none B w g ds → AB w0 g0 w g → (∀ w', Agr w w' g → AB w0 g0 w' g → R w') → FE P R ds w
  | [], w, g, g0, _, m0, k => k w (.refl w g) m0
  | d :: ds, w, g, g0, ⟨⟨r, h1, h2, h3, h4, h5, h6⟩, hm⟩, m0, k => by
    refine ⟨r, _, by rw [h1], run_takeDeferred h4, ?_⟩
    have hag : Agr w (w.putObj r (.deferred none)) g := by
      refine ⟨by simp, rfl, rfl, rfl, fun b xs el f hb => ?_, fun b hb => ?_⟩
      · exact World.putObj_heap_other (fun e => by subst e; rw [h4] at hb; cases hb)
      · exact World.putObj_heap_other (fun e => by subst e; exact h5 (.inr hb))
    have hm0 : AB w0 g0 (w.putObj r (.deferred none)) g := by
      refine ⟨by simpa using m0.size, m0.os, m0.tape, m0.output, fun b hb hn => ?_, m0.own, m0.oth, m0.nx, m0.fx, m0.row⟩
      rw [← m0.keep b hb hn]
      exact World.putObj_heap_other (by omega)
    exact Ez hB ds (hm.put ds h6) hm0 fun w' a' m' => k w' (hag.tr a') m'
def Wb (P : Program) (fn : Func) (c0 : Frame) (cs : List Frame) (R : Ending → FrameMode → World → Prop) : Exit → Act → List Frame → World → Prop
  | .normal, a, cs', w => ∃ u', cs' = { c0 with mode := u' } :: cs ∧ FE P (fun w' => ∃ v, (results fn a.tmps).run P w' = .ok v w' ∧ R (.returned v) u' w') a.defers w
  | .ret, a, cs', w => ∃ u', cs' = { c0 with mode := u' } :: cs ∧ FE P (fun w' => ∃ v, (results fn a.tmps).run P w' = .ok v w' ∧ R (.returned v) u' w') a.defers w
  | .panic ch, a, cs', w => ∃ u', cs' = { c0 with mode := u' } :: cs ∧ FE P (fun w' => R (.panicked ch) u' w') a.defers w
  | _, _, _, _ => False
theorem L9 {f : FuncId} {fn : Func} {c : Code} {args : Array Value} {u : FrameMode} {w : World} {R : Ending → FrameMode → World → Prop} (hf : P.funcs[f]? = some fn) (hb : fn.body = some c)
    (h : ∀ (c0 : Frame) (cs : List Frame), c0.mode = u → c.wpSIn (FR none) 0 P (Wb P fn c0 cs R) { tmps := args ++ Array.replicate (fn.ntmps - args.size) undef, defers := [] } (c0 :: cs) w) :
    CallsDIn (FR none) 0 P f args u w R := by
 refine ⟨trivial, fun c0 cs hu hroom => ?_⟩
 let b : Frame := { (default : Frame) with fn := f, kind := .deferred, roundOf := none }
 have henter : Frame.enter P f args .deferred = b.atR { tmps := args ++ Array.replicate (fn.ntmps - args.size) undef, defers := [] } [.code c] := by
  simp [Frame.enter, Frame.atR, hf, hb, b]
 obtain ⟨e, a', cs', w', hl, hq, harr⟩ := h c0 cs hu b [] rfl rfl trivial hroom; rw [← henter] at harr; have room' : ∀ u', (FR none).room (({ c0 with mode := u' } :: cs).length + 1 + 0) := fun _ => hroom; cases e with
 | normal =>
  obtain ⟨u', rfl, ht⟩ := hq; obtain ⟨w'', ⟨v, q1, q2⟩, q3⟩ := DF (n := 0) a'.defers w' { b.atR a' [] with mode := .returning } ({ c0 with mode := u' } :: cs) (by simp) rfl trivial (room' u') ht; exact ⟨.returned v, u', w'', _, q2, StepsIn.trans (StepsIn.trans harr (.one (fenced_calm (fr := b.atR a' []) trivial hroom rfl) (stepR_end rfl))) q3, rfl, rfl, rfl, rfl, fn, hf, q1⟩
 | ret =>
  obtain ⟨u', rfl, ht⟩ := hq; obtain ⟨todo, hs⟩ := harr.1 rfl; obtain ⟨w'', ⟨v, q1, q2⟩, q3⟩ := DF (n := 0) a'.defers w' { b.atR a' todo with mode := .returning } ({ c0 with mode := u' } :: cs) (by simp) rfl trivial (room' u') ht; exact ⟨.returned v, u', w'', _, q2, StepsIn.trans hs q3, rfl, rfl, rfl, rfl, fn, hf, q1⟩
 | panic ch =>
  obtain ⟨u', rfl, ht⟩ := hq; obtain ⟨todo, hs⟩ := harr; obtain ⟨w'', q2, q3⟩ := DF (n := 0) a'.defers w' { b.atR a' todo with mode := .panicking ch } ({ c0 with mode := u' } :: cs) (by simp) rfl trivial (room' u') ht; exact ⟨.panicked ch, u', w'', _, q2, StepsIn.trans hs q3, rfl, rfl, rfl, rfl, fn, hf⟩
 | exit id => exact hq.elim
 | goto l => exact hq.elim
 | outgrown => exact hq.elim
structure FF (P : Program) (N : Nat) (c : Code) (Q : Exit → Tm → A0 → FrameMode → Prop) (tm : Tm) (H : A0) (u : FrameMode) : Prop where
  run : ∀ (B : Nat) (w : World) (g : Gs) (a : Act) (c0 : Frame) (cs : List Frame), c0.mode = u → Sim w g H → RA w g a tm → a.tmps.size = N → B ≤ w.heap.size → Bf none B w g a.defers →
    c.wpSIn (FR none) 0 P (fun e a' cs' w' => ∃ tm' g' H' u', cs' = { c0 with mode := u' } :: cs ∧ AB w g w' g' ∧ Sim w' g' H' ∧ RA w' g' a' tm' ∧ a'.tmps.size = N ∧ Bf none B w' g' a'.defers ∧ e ≠ .outgrown ∧ Q e tm' H' u') a (c0 :: cs) w
theorem FG {F : Fence} {n : Nat} {c : Code} {Q Q' : Exit → Act → List Frame → World → Prop} {a : Act} {cs : List Frame} {w : World} (h : c.wpSIn F n P Q a cs w) (hq : ∀ e a cs w, Q e a cs w → Q' e a cs w) : c.wpSIn F n P Q' a cs w :=
  fun b k h1 h2 h3 h4 => let ⟨e, a', cs', w', q1, q2, q3⟩ := h b k h1 h2 h3 h4; ⟨e, a', cs', w', q1, hq _ _ _ _ q2, q3⟩
theorem FF.of {c : Code} {Q : Exit → Tm → A0 → FrameMode → Prop} {u : FrameMode} (h : IWp P N c (fun e tm H => Q e tm H u) tm H) : FF P N c Q tm H u := by
 refine ⟨fun B w g a c0 cs hu s r hN hB hm => wpSIn_of_wpIn rfl (wpIn_mono (h.run none B [] w g a s r hN hB ⟨a.defers, by simp, hm⟩) ?_)⟩
 rintro e a' w' ⟨tm', g', H', m, s', r', n', ⟨ms, e1, e2⟩, ne, q⟩
 exact ⟨tm', g', H', u, by subst hu; rfl, m, s', r', n', by rw [e1, List.append_nil]; exact e2, ne, q⟩
def thenS (K : Tm → A0 → FrameMode → Prop) (Q : Exit → Tm → A0 → FrameMode → Prop) : Exit → Tm → A0 → FrameMode → Prop
  | .normal, tm, H, u => K tm H u
  | e, tm, H, u => Q e tm H u
theorem OY {x y : Code} {Q : Exit → Tm → A0 → FrameMode → Prop} {u : FrameMode} (h : FF P N x (thenS (fun tm H u => FF P N y Q tm H u) Q) tm H u) : FF P N (.seq x y) Q tm H u := by
 refine ⟨fun B w g a c0 cs hu s r hN hB hm => wpSIn_seq (FG (h.run B w g a c0 cs hu s r hN hB hm) ?_)⟩
 rintro e a1 cs1 w1 ⟨tm1, g1, H1, u1, hcs, m1, s1, r1, n1, k1, ne, q⟩
 cases e with
 | normal =>
  subst hcs; refine FG (q.run B w1 g1 a1 _ cs rfl s1 r1 n1 (Nat.le_trans hB m1.size) k1) ?_
  rintro e a2 cs2 w2 ⟨tm2, g2, H2, u2, hcs2, m2, rest⟩
  exact ⟨tm2, g2, H2, u2, hcs2, m1.tr m2 s s1, rest⟩
 | outgrown => exact absurd rfl ne
 | exit id => exact ⟨tm1, g1, H1, u1, hcs, m1, s1, r1, n1, k1, ne, q⟩
 | goto id => exact ⟨tm1, g1, H1, u1, hcs, m1, s1, r1, n1, k1, ne, q⟩
 | ret => exact ⟨tm1, g1, H1, u1, hcs, m1, s1, r1, n1, k1, ne, q⟩
 | panic id => exact ⟨tm1, g1, H1, u1, hcs, m1, s1, r1, n1, k1, ne, q⟩
def Kg : FrameMode → Value × FrameMode
  | .panicking ({ v, recovered := false, goexit := false } :: older) => (v, .panicking ({ v, recovered := true } :: older))
  | u => (.nilIface, u)
theorem Jd {c0 : Frame} {cs : List Frame} {u : FrameMode} (hu : c0.mode = u) :
    (∃ v cs', recoverD (c0 :: cs) = some (v, cs') ∧ cs' = { c0 with mode := (Kg u).2 } :: cs ∧ v = (Kg u).1) ∨ (recoverD (c0 :: cs) = none ∧ (Kg u).1 = .nilIface ∧ { c0 with mode := (Kg u).2 } = c0) := by
 subst hu; simp only [recoverD]; unfold Kg; split
 ·rename_i v older hm; left; exact ⟨v, _, rfl, by simp only [hm], by simp only [hm]⟩
 ·rename_i hm; right; split
  ·rename_i v older hm2; exact absurd hm2 (hm v older)
  ·exact ⟨rfl, rfl, rfl⟩
def Mj : Value → IV
  | .iface t (.agg ⟨[]⟩) => .ifc t (.ag [])
  | .iface t (.agg ⟨[x]⟩) => if x.oneCell' = true then .ifc t (.ag [.v x]) else .v (.iface t (.agg ⟨[x]⟩))
  | v => .v v
theorem OZ {w : World} {g : Gs} (v : Value) : R w g v (Mj v) := by
 unfold Mj; split
 ·exact .ifc _ _ _ (.ag _ _ rfl (by simp) (by simp))
 ·rename_i x; split
  ·rename_i ho; refine .ifc _ _ _ (.ag _ _ rfl ?_ ?_)
   ·intro j y h1; cases j with
    | zero => simp at h1; subst h1; exact ho
    | succ j => simp at h1
   ·intro j y c h1 h2; cases j with
    | zero => simp at h1 h2; subst h1; subst h2; exact .v _
    | succ j => simp at h2
  ·exact .v _
 ·exact .v _
def Eb (P : Program) (full : Array Oper) : List Oper → (Tm → A0 → FrameMode → Prop) → Tm → A0 → FrameMode → Prop
  | [], Q, tm, H, u => Q tm H u
  | o :: l, Q, tm, H, u => o.guard = none ∧
    match o.op with
    | .call { callee := .builtin .recover, .. } => Eb P full l Q (Br tm o.dst (Mj (Kg u).1)) H (Kg u).2
    | op => match evP P tm op with | some (s, r) => s ∧ Eb P full l Q (Br tm o.dst r) H u | none => False
theorem G9 {full : Array Oper} (hok : full.toList.all (okO N) = true) {Q : Exit → Tm → A0 → FrameMode → Prop} {w0 : World} {g0 : Gs} {B : Nat} {c00 : Frame} {cs : List Frame} :
    ∀ (l : List Oper) (i : Nat) (tm : Tm) (H : A0) (u : FrameMode), (∀ (j : Nat) (o : Oper), l[j]? = some o → full[i + j]? = some o) → Eb P full l (Q .normal) tm H u →
    ∀ (w : World) (g : Gs) (a : Act) (c0 : Frame), c0 = { c00 with mode := u } → AB w0 g0 w g → Sim w g H → RA w g a tm → a.tmps.size = N → B ≤ w.heap.size → Bf none B w g a.defers →
    wpOpsSIn (FR none) 0 P full (fun e a' cs' w' => ∃ tm' g' H' u', cs' = { c00 with mode := u' } :: cs ∧ AB w0 g0 w' g' ∧ Sim w' g' H' ∧ RA w' g' a' tm' ∧ a'.tmps.size = N ∧ Bf none B w' g' a'.defers ∧ e ≠ .outgrown ∧ Q e tm' H' u') (List.range' i l.length) a (c0 :: cs) w
  | [], i, tm, H, u, hl, h, w, g, a, c0, hc, m, s, r, hN, hB, hm => by
    subst hc
    exact ⟨tm, g, H, u, rfl, m, s, r, hN, hm, by simp, h⟩
  | o :: l, i, tm, H, u, hl, h, w, g, a, c0, hc, m, s, r, hN, hB, hm => by
    have ho : full[i]? = some o := hl 0 o rfl
    have hl' : ∀ (j : Nat) (o : Oper), l[j]? = some o → full[i + 1 + j]? = some o := fun j o' h => by
      have := hl (j + 1) o' (by simpa using h)
      rwa [show i + (j + 1) = i + 1 + j by omega] at this
    have hall := List.all_eq_true.1 hok
    have hoo : okO N o = true := hall o (by rw [Array.mem_toList_iff]; exact Array.mem_of_getElem? ho)
    show wpOpsSIn (FR none) 0 P full _ (i :: List.range' (i + 1) l.length) a (c0 :: cs) w
    obtain ⟨hgd, h⟩ := h
    have hw : Region.wanted o (yielded full a.tmps) = true := by simp [Region.wanted, hgd]
    simp only [wpOpsSIn, ho, hw, if_true]
    refine ⟨fun _ _ => trivial, ?_⟩
    have put : ∀ {x : Value} {i' : IV} {u' : FrameMode} {c1 : Frame}, c1 = { c00 with mode := u' } → R w g x i' → Eb P full l (Q .normal) (Br tm o.dst i') H u' → wpOpsSIn (FR none) 0 P full (fun e a' cs' w' => ∃ tm' g' H' u', cs' = { c00 with mode := u' } :: cs ∧ AB w0 g0 w' g' ∧ Sim w' g' H' ∧ RA w' g' a' tm' ∧ a'.tmps.size = N ∧ Bf none B w' g' a'.defers ∧ e ≠ .outgrown ∧ Q e tm' H' u') (List.range' (i + 1) l.length) (a.put o.dst x) (c1 :: cs) w :=
      fun hc1 hx hq => G9 hok l (i + 1) _ H _ hl' hq w g (a.put o.dst _) _ hc1 m s (r.put hx) (by rw [Db]; exact hN) hB (by rw [put_defers]; exact hm)
    split at h
    · rename_i args ats hop
      have hrun : (execOp a.eval o).run P w = .ok .recover w := by
        simp [execOp, hop, resolve, invoke, builtin]
      rw [hrun]
      have hu : c0.mode = u := by rw [hc]
      rcases Jd (cs := cs) hu with ⟨v, cs', e1, e2, e3⟩ | ⟨e1, e2, e3⟩
      · simp only [e1]
        subst e2 e3
        exact put (by subst hc; rfl) (OZ _) h
      · simp only [e1]
        rw [e2] at h
        refine put ?_ (OZ _) h
        rw [← e3]; subst hc; rfl
    · rename_i op hno
      split at h
      · rename_i sd rr he
        obtain ⟨x, q1, q2⟩ := N4 hoo he h.1 w g a r hN
        rw [q1]
        exact put hc q2 h.2
      · exact h.elim
theorem DG {id : Nat} {ops : Array Oper} (hok : ops.toList.all (okO N) = true) {Q : Exit → Tm → A0 → FrameMode → Prop} {u : FrameMode} (h : Eb P ops ops.toList (Q .normal) tm H u) : FF P N (.region id ops false) Q tm H u := by
 refine ⟨fun B w g a c0 cs hu s r hN hB hm => wpSIn_region ?_⟩; have := G9 (Q := Q) (cs := cs) hok ops.toList 0 tm H u (fun j o ho => by simpa using ho) h w g a c0 (c00 := c0) (by subst hu; rfl) (.refl w g) s r hN hB hm
 rwa [List.range_eq_range', ← Array.length_toList]
def QJ (P : Program) (rs : List ResultVar) (H0 : A0) (Q : An → FrameMode → A0 → Prop) : Exit → Tm → A0 → FrameMode → Prop
  | .normal, tm, H, u => K7 P rs H0 (fun e J => Q e u J) tm H
  | .ret, tm, H, u => K7 P rs H0 (fun e J => Q e u J) tm H
  | .panic ch, _, H, u => (∃ J, Cw H0 H J ∧ Q (.pan ch) u J) ∨ Q (.pan ch) u H
  | .exit _, _, _, _ => False
  | .goto _, _, _, _ => False
  | .outgrown, _, _, _ => False
theorem HL {f : FuncId} {fn : Func} {c : Code} {args : List IV} {u : FrameMode} {Q : An → FrameMode → A0 → Prop} (hbd : Bq P f = true) (hf : P.funcs[f]? = some fn) (hb : fn.body = some c) (hn : args.length ≤ fn.ntmps) (hr : (fn.results.toList.all (rvN fn.ntmps)) = true)
    (h : H.Wf → FF P fn.ntmps c (QJ P fn.results.toList H Q) (tm0 args) H u) : AX P f args u H Q := by
 refine ⟨hbd, fun w g vs s rl => L9 hf hb fun c0 cs hu => ?_⟩; have hN : (vs ++ Array.replicate (fn.ntmps - vs.size) undef).size = fn.ntmps := by
  have := rl.1; simp; omega
 refine FG ((h s.wf).run w.heap.size w g { tmps := vs ++ Array.replicate (fn.ntmps - vs.size) undef, defers := [] } c0 cs hu s (OX rl) hN (Nat.le_refl _) (fun r e => by cases e)) ?_
 rintro e a' cs' w' ⟨tm', g', H', u', hcs, m, s', ra, hN', hm, hne, hq⟩
 have hrn : ∀ r, r ∈ fn.results.toList → rvN a'.tmps.size r = true := by
  rw [hN']; exact List.all_eq_true.1 hr
 have fin : K7 P fn.results.toList H (fun e J => Q e u' J) tm' H' → ∃ u', cs' = { c0 with mode := u' } :: cs ∧ FE P (fun w' => ∃ v, (results fn a'.tmps).run P w' = .ok v w' ∧ ∃ ie g' H', AB w g w' g' ∧ Sim w' g' H' ∧ RE w' g' (.returned v) ie ∧ Q ie u' H') a'.defers w' := by
  intro hl; refine ⟨u', hcs, Ez (Nat.le_refl _) a'.defers hm m fun w'' ag m'' => ?_⟩; have s'' := s'.agr ag; obtain ⟨st, is, h1, h2, h3⟩ := hl; obtain ⟨v, q1, q2⟩ := Ew (P := P) s'' (fun i hi => (ra i hi).agr ag) hrn h1 h2; refine ⟨v, q1, ?_⟩; rcases h3 with ⟨r', J, h3, h4, h5⟩ | ⟨r', J, h3 | h3, h5⟩
  ·obtain ⟨sJ, mJ⟩ := h3.sim s m'' s''; exact ⟨_, _, J, mJ, sJ, .ret _ _ (h4.sound s'' h3.sub q2), h5⟩
  ·obtain ⟨g3, m3, s3, h4⟩ := h3 w'' g' s''; exact ⟨_, _, J, m''.tr m3 s s'', s3, .ret _ _ (h4 _ q2), h5⟩
  ·obtain ⟨g3, m3, s3, h4⟩ := h3 w g w'' g' s m'' s''; exact ⟨_, _, J, m3, s3, .ret _ _ (h4 _ q2), h5⟩
 cases e with
 | normal => exact fin hq
 | ret => exact fin hq
 | panic ch =>
  refine ⟨u', hcs, Ez (Nat.le_refl _) a'.defers hm m fun w'' ag m'' => ?_⟩; have s'' := s'.agr ag; rcases hq with ⟨J, h3, h5⟩ | h5
  ·obtain ⟨sJ, mJ⟩ := h3.sim s m'' s''; exact ⟨_, _, J, mJ, sJ, .pan _, h5⟩
  ·exact ⟨_, _, H', m'', s'', .pan _, h5⟩
 | exit id => exact hq.elim
 | goto id => exact hq.elim
 | outgrown => exact hq.elim
end Go.Idl
namespace Go.Idl
open Go Go.RowKit
variable {P : Program} {N : Nat} {tm : Tm} {H : A0}
structure Iw (P : Program) (N : Nat) (ops : Array Oper) (l : List Nat) (Q : Exit → Tm → A0 → List GD → Prop) (tm : Tm) (H : A0) (dl : List GD) : Prop where
  run : ∀ (B0 B : Nat) (w : World) (g : Gs) (a : Act), Sim w g H → RA w g a tm → a.tmps.size = N → B ≤ w.heap.size → DM B0 w g B dl a.defers →
    wpOpsIn (FR none) 0 P ops (fun e a' w' => ∃ tm' g' H' dl' B', AB w g w' g' ∧ Sim w' g' H' ∧ RA w' g' a' tm' ∧ a'.tmps.size = N ∧ B' ≤ w'.heap.size ∧ DM B0 w' g' B' dl' a'.defers ∧ e ≠ .outgrown ∧ Q e tm' H' dl') l a w
theorem NU {ops : Array Oper} {Q : Exit → Tm → A0 → List GD → Prop} {dl : List GD} (h : Q .normal tm H dl) : Iw P N ops [] Q tm H dl :=
  ⟨fun _ B w g _ s r hN hB hm => ⟨tm, g, H, dl, B, .refl w g, s, r, hN, hB, hm, by simp, h⟩⟩
theorem NV {ops : Array Oper} {i : Nat} {l : List Nat} {o : Oper} {Q : Exit → Tm → A0 → List GD → Prop} {dl : List GD} (ho : ops[i]? = some o) (hg : o.guard = none)
    (h : Aj P N o tm H (fun x H' => Iw P N ops l Q (Br tm o.dst x) H' dl) (fun ch H' => Q (.panic ch) tm H' dl)) : Iw P N ops (i :: l) Q tm H dl := by
 refine ⟨fun B0 B w g a s r hN hB hm => ?_⟩; have hw : Region.wanted o (yielded ops a.tmps) = true := by simp [Region.wanted, hg]
 simp only [wpOpsIn, ho, hw, if_true]; refine ⟨DU, ?_⟩; have hsem : o.semAt (FR none).round a.eval = execOp a.eval o := Oper.semAt_eq _ _ _ h.nd; rw [hsem]; refine Cq ?_ ?_ ⟨none, rfl⟩ (h.run none w g a s r hN)
 ·rintro a' w' ⟨x, i, g', H', rfl, m, s', hr, hk⟩
  have := hk.run B0 B w' g' (a.put o.dst x) s' ((r.mono m).put hr) (by rw [Db]; exact hN) (Nat.le_trans hB m.size) (by rw [put_defers]; exact hm.mono m); refine FW l _ _ ?_ this
  rintro e a2 w2 ⟨tm2, g2, H2, dl2, B2, m2, rest⟩
  exact ⟨tm2, g2, H2, dl2, B2, m.tr m2 s s', rest⟩
 ·rintro e a' w' ⟨ch, g', H', rfl, rfl, m, s', hq⟩
  exact ⟨tm, g', H', dl, B, m, s', r.mono m, hN, Nat.le_trans hB m.size, hm.mono m, by simp, hq⟩
theorem La {ops : Array Oper} {i : Nat} {l : List Nat} {o : Oper} {Q : Exit → Tm → A0 → List GD → Prop} {dl : List GD} (ho : ops[i]? = some o) (hg : o.guard = none) (hok : okO N o = true)
    {x : Operand} {args : Array Operand} {ats : Array TypeId} (hop : o.op = .defer { callee := .value x, args := args, argTypes := ats }) {f : FuncId} {cap : List IV} (hf : fnP (ev tm x) = some (f, cap))
    (h : Iw P N ops l Q (Br tm o.dst (.v undef)) H (⟨f, cap, args.toList.map (ev tm)⟩ :: dl)) : Iw P N ops (i :: l) Q tm H dl := by
 refine ⟨fun B0 B w g a s r hN hB hm => ?_⟩; have hw : Region.wanted o (yielded ops a.tmps) = true := by simp [Region.wanted, hg]
 simp only [wpOpsIn, ho, hw, if_true]; refine ⟨DU, ?_⟩; have hsem : o.semAt (FR none).round a.eval = execOp a.eval o := Oper.semAt_none _ _; rw [hsem]; subst hN; simp only [okO, hop, Bool.and_eq_true, List.all_eq_true, Op.operands, Call.operands, Array.toList_append, List.mem_append] at hok; have rx := r.ev (x := x) (hok.1 x (.inl (by simp))); have rargs := OD r args (fun q hq => hok.1 q (.inr hq)); have ⟨xs, hxe, hcap⟩ : ∃ xs : Array Value, a.eval x = .func (.func f) #[] xs ∧ RL w g xs cap := by
  unfold fnP at hf; split at hf
  ·rename_i f' first cap' hx
   split at hf
   ·rename_i hs; simp only [Option.some.injEq, Prod.mk.injEq] at hf; obtain ⟨rfl, rfl⟩ := hf; rw [hx] at rx; have e1 : first = #[] := Array.eq_empty_of_size_eq_zero hs.1
    have e2 : cap' = #[] := Array.eq_empty_of_size_eq_zero hs.2; exact ⟨#[], by rw [rx.v_eq, e1, e2], rfl, by simp⟩
   ·cases hf
  ·rename_i f' cap' hx; simp only [Option.some.injEq, Prod.mk.injEq] at hf; obtain ⟨rfl, rfl⟩ := hf; rw [hx] at rx; generalize a.eval x = z at rx; cases rx with
   | fn _ xs ys _ _ hl hl' hr hr' =>
    have e1 : xs = #[] := Array.eq_empty_of_size_eq_zero (by simpa using hl); exact ⟨ys, by rw [e1], hl', hr'⟩
  ·cases hf
 have hrun : (execOp a.eval o).run P w = .ok (.defer { target := .fn (.func f) xs, args := args.map a.eval }) w := by
  simp [execOp, hop, resolve, hxe, Deferred.ofValue]
 rw [hrun]; have hB0 : B0 ≤ w.heap.size := by
  cases dl with
  | nil => exact Nat.le_trans hm.1 hB
  | cons q dl => exact Nat.le_trans hm.1 hB
 have hm' : DM B0 w g w.heap.size (⟨f, cap, args.toList.map (ev tm)⟩ :: dl) ({ target := .fn (.func f) xs, args := args.map a.eval } :: a.defers) :=
  ⟨hB0, [], _, a.defers, B, rfl, (fun r e => by cases e), ⟨xs, rfl, hcap, rargs⟩, DM.lt hB hm, hm⟩
 have r2 : RA w g { a with defers := { target := .fn (.func f) xs, args := args.map a.eval } :: a.defers } tm := fun i hi => r i hi; refine h.run B0 w.heap.size w g _ s (r2.put (.v undef)) (by rw [Db]) (Nat.le_refl _) ?_; rw [put_defers]; exact hm'
def Ec (P : Program) (N : Nat) (full : Array Oper) : List Oper → (Exit → Tm → A0 → List GD → Prop) → Tm → A0 → List GD → Prop
  | [], Q, tm, H, dl => Q .normal tm H dl
  | o :: l, Q, tm, H, dl => o.guard = none ∧
    match o.op with
    | .defer { callee := .value x, args, .. } => D2 (fnP (ev tm x)) (fun f cap => Ec P N full l Q (Br tm o.dst (.v undef)) H (⟨f, cap, args.toList.map (ev tm)⟩ :: dl)) False
    | _ => BR P N o tm H (fun x H' => Ec P N full l Q (Br tm o.dst x) H' dl) (fun ch H' => Q (.panic ch) tm H' dl)
theorem Ed {full : Array Oper} (hok : full.toList.all (okO N) = true) {Q : Exit → Tm → A0 → List GD → Prop} : ∀ (l : List Oper) (i : Nat) (tm : Tm) (H : A0) (dl : List GD), (∀ (j : Nat) (o : Oper), l[j]? = some o → full[i + j]? = some o) →
    Ec P N full l Q tm H dl → Iw P N full (List.range' i l.length) Q tm H dl
  | [], i, tm, H, dl, _, h => NU h
  | o :: l, i, tm, H, dl, hl, h => by
    have ho : full[i]? = some o := hl 0 o rfl
    have hl' : ∀ (j : Nat) (o : Oper), l[j]? = some o → full[i + 1 + j]? = some o := fun j o' h => by
      have := hl (j + 1) o' (by simpa using h)
      rwa [show i + (j + 1) = i + 1 + j by omega] at this
    have hall := List.all_eq_true.1 hok
    have hoo : okO N o = true := hall o (by rw [Array.mem_toList_iff]; exact Array.mem_of_getElem? ho)
    show Iw P N full (i :: List.range' (i + 1) l.length) Q tm H dl
    obtain ⟨hgd, h⟩ := h
    split at h
    · rename_i x args ats hop
      unfold D2 at h
      split at h
      · rename_i f cap hf
        exact La ho hgd hoo hop hf (Ed hok l (i + 1) _ _ _ hl' h)
      · exact h.elim
    · exact NV ho hgd ((CH hoo h).mono (fun x H' h => Ed hok l (i + 1) _ _ _ hl' h) fun _ _ h => h)
theorem Hy {id : Nat} {ops : Array Oper} {Q : Exit → Tm → A0 → List GD → Prop} {dl : List GD} (hok : ops.toList.all (okO N) = true) (h : Ec P N ops ops.toList Q tm H dl) : FD P N (.region id ops false) Q tm H dl := by
 refine ⟨fun B0 B w g a s r hN hB hm => wpIn_region ?_⟩; have := (Ed hok ops.toList 0 tm H dl (fun j o ho => by simpa using ho) h).run B0 B w g a s r hN hB hm
 rwa [List.range_eq_range', ← Array.length_toList]
theorem EY {x y : Code} {Q : Exit → Tm → A0 → List GD → Prop} {dl : List GD} (h : ∀ cb, cb = y → FD P N x (Iu (fun tm H dl => FD P N cb Q tm H dl) Q) tm H dl) : FD P N (.seq x y) Q tm H dl := OV (h y rfl)
theorem EZ {x y : Code} {Q : Exit → Tm → A0 → FrameMode → Prop} {u : FrameMode} (h : ∀ cb, cb = y → FF P N x (thenS (fun tm H u => FF P N cb Q tm H u) Q) tm H u) : FF P N (.seq x y) Q tm H u := OY (h y rfl)
def vOf : IV → Option Value
  | .v x => some x
  | .ag [] => some (.agg #[])
  | .ag [.v x] => some (.agg #[x])
  | .ifc t (.v x) => some (.iface t x)
  | .ifc t (.ag []) => some (.iface t (.agg #[]))
  | .ifc t (.ag [.v x]) => some (.iface t (.agg #[x]))
  | _ => none
theorem O_ {w : World} {g : Gs} {x y : Value} (h : R w g x (.ag [.v y])) : x = .agg #[y] := by
 cases h with
 | ag xs _ hl ho hr =>
  have h1 : xs.size = 1 := by simpa using hl
  have h2 : xs[0]? = some xs[0] := Array.getElem?_eq_getElem (by omega); have h3 := (hr 0 _ (.v y) h2 rfl).v_eq; congr 1; refine Array.ext (by simpa using h1) fun i hi hj => ?_; have : i = 0 := by omega
  subst this; simpa using h3
theorem Mk {w : World} {g : Gs} {x : Value} (h : R w g x (.ag [])) : x = .agg #[] := by
 cases h with
 | ag xs _ hl ho hr =>
  congr 1; exact Array.eq_empty_of_size_eq_zero (by simpa using hl)
theorem NW {w : World} {g : Gs} {x : Value} {i : IV} (h : R w g x i) {v : Value} (hv : vOf i = some v) : x = v := by
 unfold vOf at hv; split at hv <;> simp only [Option.some.injEq, reduceCtorEq] at hv
 ·subst hv; exact h.v_eq
 ·subst hv; exact Mk h
 ·subst hv; exact O_ h
 ·subst hv; cases h with
  | ifc t y _ hy => rw [hy.v_eq]
 ·subst hv; cases h with
  | ifc t y _ hy => rw [Mk hy]
 ·subst hv; cases h with
  | ifc t y _ hy => rw [O_ hy]
end Go.Idl
