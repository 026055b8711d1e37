/- Copies go on apart; Same tells what is the same Part 3. Conditions: none. -/
import Derived.Test.YtbgebljjmpklkaaGreatDoorPartB
import Derived.OrdersIn
import Derived.IntWalk
import Derived.RangeFuncRecord
import Derived.Maps.RangeRun
set_option linter.unusedSimpArgs false
set_option linter.unusedVariables false

namespace Go.Idl

open Go Go.RowKit

variable {P : Program} {N : Nat} {tm : Tm} {H : IHeap}

def rdI (P : Program) (H : IHeap) (tm : Tm) (op : Op) : Option (Prop × IV) :=
  match op with
  | .load t x => ldX P H t (ev tm x)
  | .indexAddr t x i => ixX P H t (ev tm x) (ev tm i)
  | .lookup t x i k => lkX P H t (ev tm x) (ev tm i) k
  | .buildSlice t n ps =>
    match bsI P t n (ps.toList.map fun q => (q.1, ev tm q.2)) with
    | some (sz, rs) => some (True, .sl sz (chunks sz n rs))
    | none => none
  | op => evP P tm op

def xI (P : Program) (H : IHeap) (tm : Tm) (op : Op) (K : IV → IHeap → Prop) (Qp : List PanicEntry → IHeap → Prop) : Prop :=
  match op with
  | .call { callee := .value x, args, .. } => callE (fnP (ev tm x)) (kCall P (args.toList.map (ev tm)) H K Qp) False
  | .call { callee := .builtin .append, args, argTypes, .. } =>
    match args.toList, argTypes.toList with
    | [x, y], [t, t'] => bindE (apI P H t t' (ev tm x) (ev tm y)) K False
    | _, _ => False
  | .alloc t => bindE (alX P H t) K False
  | .box _ x => bindE (bxX H (ev tm x)) K False
  | .store t x y => bindE (stX P H t (ev tm x) (ev tm y)) K False
  | .mapUpdate t x i y => bindE (muX P H t (ev tm x) (ev tm i) (ev tm y)) K False
  | _ => False

def isX (op : Op) : Bool :=
  match op with
  | .call c => match c.callee with | .builtin .len => false | _ => true
  | .alloc _ => true
  | .box _ _ => true
  | .store _ _ _ => true
  | .mapUpdate _ _ _ _ => true
  | _ => false

def isRd (op : Op) : Bool :=
  match op with
  | .load _ _ => true
  | .indexAddr _ _ _ => true
  | .lookup _ _ _ _ => true
  | _ => false

def vcS (P : Program) (o : Oper) (tm : Tm) (H : IHeap) (K : IV → IHeap → Prop) (Qp : List PanicEntry → IHeap → Prop) : Prop :=
  match isX o.op with
  | true => xI P H tm o.op K Qp
  | false => bindE (liftP (rdI P H tm o.op) H) K False

theorem vcS_sound {o : Oper} {K : IV → IHeap → Prop} {Qp : List PanicEntry → IHeap → Prop} (hok : okO N o = true) (h : vcS P o tm H K Qp) : IOper P N o tm H K Qp := by
  unfold vcS at h
  split at h
  · unfold xI at h
    split at h
    · rename_i x args ats ho
      unfold callE at h
      split at h
      · rename_i f cap hf
        exact IOper_call ho hok hf h
      · exact h.elim
    · rename_i args ats ho
      split at h
      · rename_i x y t t' h1 h2
        unfold bindE at h
        split at h
        · rename_i s r H' he
          have e1 : args = #[x, y] := Array.toList_inj.1 h1
          have e2 : ats = #[t, t'] := Array.toList_inj.1 h2
          subst e1
          subst e2
          exact IOper_append ho hok he h.1 h.2
        · exact h.elim
      · exact h.elim
    all_goals first
      | exact h.elim
      | (rename_i ho
         unfold bindE at h
         split at h
         · rename_i s r H' he
           exact efX_sound hok (by rw [ho]; exact he) h.1 h.2
         · exact h.elim)
  · unfold bindE liftP at h
    split at h
    · rename_i s r H' he
      split at he
      · rename_i s' r' he'
        simp only [Option.some.injEq, Prod.mk.injEq] at he
        obtain ⟨rfl, rfl, rfl⟩ := he
        unfold rdI at he'
        split at he'
        · rename_i t x ho
          exact IOper_load2 ho hok he' h.1 h.2
        · rename_i t x i ho
          exact efX_sound (H' := H) hok (by rw [ho]; simp only [efX, liftP, he']) h.1 h.2
        · rename_i t x i k ho
          exact IOper_lookup ho hok he' h.1 h.2
        · rename_i t n ps ho
          split at he'
          · rename_i sz rs hb
            simp only [Option.some.injEq, Prod.mk.injEq] at he'
            obtain ⟨rfl, rfl⟩ := he'
            exact IOper_buildSlice ho hok hb h.2
          · cases he'
        · exact IOper_evP hok he' h.1 h.2
      · cases he
    · exact h.elim

theorem bindE_mono {x : Option (Prop × IV × IHeap)} {K K' : IV → IHeap → Prop} (h : bindE x K False) (hk : ∀ r H, K r H → K' r H) : bindE x K' False := by
  unfold bindE at h ⊢
  split at h
  · exact ⟨h.1, hk _ _ h.2⟩
  · exact h

theorem vcS_mono {o : Oper} {K K' : IV → IHeap → Prop} {Qp Qp' : List PanicEntry → IHeap → Prop} (h : vcS P o tm H K Qp) (hk : ∀ r H, K r H → K' r H) (hq : ∀ c H, Qp c H → Qp' c H) : vcS P o tm H K' Qp' := by
  unfold vcS at h ⊢
  split at h
  · unfold xI at h ⊢
    split at h
    · unfold callE at h ⊢
      split at h
      · exact ICalls.mono h fun e H' he => by cases e <;> first | exact hk _ _ he | exact hq _ _ he
      · exact h
    · split at h
      · exact bindE_mono h hk
      · exact h
    · exact bindE_mono h hk
    · exact bindE_mono h hk
    · exact bindE_mono h hk
    · exact bindE_mono h hk
    · exact h
  · exact bindE_mono h hk

theorem ev_map {tm tm' : Tm} {l : List Operand} (h : ∀ x, x ∈ l → ev tm x = ev tm' x) : l.map (ev tm) = l.map (ev tm') := List.map_congr_left h

theorem evP_congr {tm tm' : Tm} {op : Op} (h : ∀ x, x ∈ op.operands.toList → ev tm x = ev tm' x) : evP P tm op = evP P tm' op := by
  cases op with
  | call c =>
    have e : ∀ x, x ∈ c.args.toList → ev tm x = ev tm' x := fun x hx => h x (by simp only [Op.operands, Call.operands, Array.toList_append, List.mem_append]; exact .inr hx)
    simp only [evP]
    split
    · split
      · rename_i x t h1 h2
        rw [e x (by rw [h1]; simp)]
      · rfl
    · rfl
  | build t ps =>
    have e : (ps.toList.map fun q => (q.1, ev tm q.2)) = ps.toList.map fun q => (q.1, ev tm' q.2) := List.map_congr_left fun q hq => by
      rw [h q.2 (by simp only [Op.operands, List.toList_toArray, List.mem_map, Array.toList_map]; exact ⟨q, hq, rfl⟩)]
    simp only [evP, e]
  | makeFunc f a b =>
    have e1 : a.toList.map (ev tm) = a.toList.map (ev tm') := ev_map fun x hx => h x (by simp only [Op.operands, Array.toList_append, List.mem_append]; exact .inl hx)
    have e2 : b.toList.map (ev tm) = b.toList.map (ev tm') := ev_map fun x hx => h x (by simp only [Op.operands, Array.toList_append, List.mem_append]; exact .inr hx)
    simp only [evP, e1, e2]
  | slice t x lo hi mx =>
    have e0 : ev tm x = ev tm' x := h x (by simp [Op.operands])
    have e1 : lo.map (ev tm) = lo.map (ev tm') := by
      cases lo with
      | none => rfl
      | some y => simp only [Option.map_some]; rw [h y (by simp [Op.operands])]
    have e2 : hi.map (ev tm) = hi.map (ev tm') := by
      cases hi with
      | none => rfl
      | some y => simp only [Option.map_some]; rw [h y (by simp [Op.operands])]
    have e3 : mx.map (ev tm) = mx.map (ev tm') := by
      cases mx with
      | none => rfl
      | some y => simp only [Option.map_some]; rw [h y (by simp [Op.operands])]
    simp only [evP, e0, e1, e2, e3]
  | binOp op t x y t' =>
    have e0 : ev tm x = ev tm' x := h x (by simp [Op.operands])
    have e1 : ev tm y = ev tm' y := h y (by simp [Op.operands])
    simp only [evP, bin3]
    split
    · rw [e0]
    · rw [e0, e1]
  | _ => first
    | rfl
    | (rename_i x y z
       simp only [evP]
       rw [h x (by simp [Op.operands]), h y (by simp [Op.operands]), h z (by simp [Op.operands])])
    | (simp only [Op.operands, List.toList_toArray, List.mem_cons, List.not_mem_nil, or_false, forall_eq_or_imp, forall_eq] at h
       simp only [evP, h])

theorem rdI_congr {tm tm' : Tm} {op : Op} (h : ∀ x, x ∈ op.operands.toList → ev tm x = ev tm' x) : rdI P H tm op = rdI P H tm' op := by
  cases op with
  | load t x =>
    simp only [rdI]
    rw [h x (by simp [Op.operands])]
  | indexAddr t x y =>
    simp only [rdI]
    rw [h x (by simp [Op.operands]), h y (by simp [Op.operands])]
  | lookup t x y k =>
    simp only [rdI]
    rw [h x (by simp [Op.operands]), h y (by simp [Op.operands])]
  | buildSlice t n ps =>
    have e : (ps.toList.map fun q => (q.1, ev tm q.2)) = ps.toList.map fun q => (q.1, ev tm' q.2) := List.map_congr_left fun q hq => by
      rw [h q.2 (by simp only [Op.operands, List.toList_toArray, List.mem_map, Array.toList_map]; exact ⟨q, hq, rfl⟩)]
    simp only [rdI, e]
  | _ => exact evP_congr (P := P) h

theorem xI_congr {tm tm' : Tm} {op : Op} {K : IV → IHeap → Prop} {Qp : List PanicEntry → IHeap → Prop} (h : ∀ x, x ∈ op.operands.toList → ev tm x = ev tm' x) : xI P H tm op K Qp = xI P H tm' op K Qp := by
  unfold xI
  split
  · rename_i x args ats
    simp only [Op.operands, Call.operands, Array.toList_append, List.mem_append] at h
    rw [h x (.inl (by simp)), ev_map fun y hy => h y (.inr hy)]
  · rename_i args ats
    split
    · rename_i x y t t' h1 h2
      simp only [Op.operands, Call.operands, Array.toList_append, List.mem_append] at h
      rw [h x (.inr (by rw [h1]; simp)), h y (.inr (by rw [h1]; simp))]
    · rfl
  · rfl
  · rename_i t x
    rw [h x (by simp [Op.operands])]
  · rename_i t x y
    rw [h x (by simp [Op.operands]), h y (by simp [Op.operands])]
  · rename_i t x y z
    rw [h x (by simp [Op.operands]), h y (by simp [Op.operands]), h z (by simp [Op.operands])]
  · rfl

theorem vcS_congr {tm tm' : Tm} {o : Oper} {K : IV → IHeap → Prop} {Qp : List PanicEntry → IHeap → Prop} (h : ∀ x, x ∈ o.op.operands.toList → ev tm x = ev tm' x) : vcS P o tm H K Qp = vcS P o tm' H K Qp := by
  unfold vcS
  rw [xI_congr h, rdI_congr h]

end Go.Idl

namespace Go.Idl

open Go Go.RowKit

variable {P : Program} {N : Nat} {tm : Tm} {H : IHeap} {ops : Array Oper} {Q : Exit → Tm → IHeap → Prop}

def wantV (ops : Array Oper) (tm : Tm) (o : Oper) : Option Bool :=
  match o.guard with
  | none => some true
  | some (j, b) =>
    match (ops[j]?).bind (·.dst) with
    | some d => match tm d with | .v (.bool c) => some (c == b) | .v _ => some false | _ => none
    | none => none

def vcOne (P : Program) (ops : Array Oper) (o : Oper) (K : IV → IHeap → Prop) (Qp : List PanicEntry → IHeap → Prop) (tm : Tm) (H : IHeap) : Prop :=
  match wantV ops tm o with
  | some true => vcS P o tm H K Qp
  | some false => K (.v undef) H
  | none => False

def Same (ops : Array Oper) (o : Oper) (tm tm' : Tm) : Prop := ∀ d, d ∈ o.looksAt ops → tm d = tm' d

theorem Same.ev {o : Oper} {tm tm' : Tm} (h : Same ops o tm tm') : ∀ x, x ∈ o.op.operands.toList → ev tm x = ev tm' x := by
  intro x hx
  cases x with
  | tmp t => exact h t (List.mem_append_left _ (List.mem_filterMap.2 ⟨.tmp t, hx, rfl⟩))
  | _ => rfl

theorem Same.want {o : Oper} {tm tm' : Tm} (h : Same ops o tm tm') : wantV ops tm o = wantV ops tm' o := by
  unfold wantV
  split
  · rfl
  · rename_i j b hg
    split
    · rename_i d hd
      rw [h d (List.mem_append_right _ (by rw [hg]; simp [hd]))]
    · rfl

theorem Same.upd {o : Oper} {tm : Tm} {d : Option Tmp} {x : IV} (h : ∀ e, d = some e → e ∉ o.looksAt ops) : Same ops o (updO tm d x) tm := by
  intro e he
  cases d with
  | none => rfl
  | some d => exact upd_ne tm x (fun h' => h d rfl (h' ▸ he))

theorem Same.symm {o : Oper} {tm tm' : Tm} (h : Same ops o tm tm') : Same ops o tm' tm := fun d hd => (h d hd).symm

theorem Same.trans {o : Oper} {tm tm' tm'' : Tm} (h : Same ops o tm tm') (k : Same ops o tm' tm'') : Same ops o tm tm'' := fun d hd => (h d hd).trans (k d hd)

theorem vcOne_congr {o : Oper} {K : IV → IHeap → Prop} {Qp : List PanicEntry → IHeap → Prop} {tm tm' : Tm} (h : Same ops o tm tm') : vcOne P ops o K Qp tm H = vcOne P ops o K Qp tm' H := by
  unfold vcOne
  rw [h.want, vcS_congr h.ev]

theorem vcOne_mono {o : Oper} {K K' : IV → IHeap → Prop} {Qp Qp' : List PanicEntry → IHeap → Prop} (h : vcOne P ops o K Qp tm H) (hk : ∀ r H, K r H → K' r H) (hq : ∀ c H, Qp c H → Qp' c H) : vcOne P ops o K' Qp' tm H := by
  unfold vcOne at h ⊢
  split at h
  · exact vcS_mono h hk hq
  · exact hk _ _ h
  · exact h

abbrev Pend := List (Nat × (IHeap → Prop))

def direct (o : Oper) (i : Nat) : Bool := o.after.any fun e => Region.binds .any e && e.on == i

def Keeps (S : Pend) (o : Oper) (H : IHeap) : Prop := ∀ q, q ∈ S → direct o q.1 = false → q.2 H

def vcAny (P : Program) (ops : Array Oper) (Q : Exit → Tm → IHeap → Prop) (S : Pend) : Nat → Array Bool → Tm → IHeap → Prop
  | 0, listed, tm, H => Region.ready .any ops listed = [] ∧ Q .normal tm H
  | fuel + 1, listed, tm, H =>
    (Region.ready .any ops listed = [] → Q .normal tm H) ∧
    ∀ j, j ∈ Region.ready .any ops listed → ∀ o, ops[j]? = some o →
      vcOne P ops o (fun x H' => (¬ H' = H → Keeps S o H') ∧ vcAny P ops Q S fuel (listed.setIfInBounds j true) (updO tm o.dst x) H') (fun ch H' => Q (.panic ch) tm H') tm H

def keepE (x : Option (Prop × IV)) (r : IV) : Prop :=
  match x with
  | some (s, r') => s ∧ r' = r
  | none => False

def Stable (P : Program) (ops : Array Oper) (o : Oper) (r : IV) (tm : Tm) (H : IHeap) : Prop :=
  (wantV ops tm o = some true ∧ keepE (rdI P H tm o.op) r) ∨ (wantV ops tm o = some false ∧ r = .v undef)

def PureAt (P : Program) (ops : Array Oper) (o : Oper) (r : IV) (tm : Tm) (H : IHeap) : Prop := ∀ (K : IV → IHeap → Prop) (Qp : List PanicEntry → IHeap → Prop), K r H → vcOne P ops o K Qp tm H

theorem PureAt.congr {o : Oper} {r : IV} {tm tm' : Tm} (h : Same ops o tm tm') (k : PureAt P ops o r tm H) : PureAt P ops o r tm' H := fun K Qp hK => vcOne_congr h ▸ k K Qp hK

theorem Stable.one {o : Oper} {r : IV} (hx : isX o.op = false) (h : Stable P ops o r tm H) : PureAt P ops o r tm H := by
  intro K Qp hK
  unfold vcOne
  rcases h with ⟨h1, h2⟩ | ⟨h1, rfl⟩
  · rw [h1]
    unfold vcS
    rw [hx]
    unfold keepE at h2
    split at h2
    · rename_i s r' he
      obtain ⟨h3, rfl⟩ := h2
      simp only [he, liftP, bindE]
      exact ⟨h3, hK⟩
    · exact h2.elim
  · rw [h1]; exact hK

theorem PureAt.skip {o : Oper} (h : wantV ops tm o = some false) : PureAt P ops o (.v undef) tm H := by
  intro K Qp hK
  unfold vcOne
  rw [h]
  exact hK

theorem updO_comm {tm : Tm} {d e : Option Tmp} {x y : IV} (h : ∀ i, d = some i → e ≠ some i) : updO (updO tm d x) e y = updO (updO tm e y) d x := by
  cases d with
  | none => rfl
  | some d =>
    cases e with
    | none => rfl
    | some e =>
      funext i
      have hne : e ≠ d := fun h' => h d rfl (by rw [h'])
      simp only [updO, Go.Idl.upd]
      by_cases h1 : i = e
      · subst h1
        simp [hne]
      · by_cases h2 : i = d
        · subst h2
          simp [h1]
        · simp [h1, h2]

theorem any_weak {q : Nat × (IHeap → Prop)} {S : Pend} : ∀ (fuel : Nat) (listed : Array Bool) (tm : Tm) (H : IHeap), vcAny P ops Q (q :: S) fuel listed tm H → vcAny P ops Q S fuel listed tm H
  | 0, _, _, _, h => h
  | fuel + 1, listed, tm, H, h => ⟨h.1, fun j hj o ho => vcOne_mono (h.2 j hj o ho) (fun x H' h3 => ⟨fun e p hp => h3.1 e p (List.mem_cons_of_mem _ hp), any_weak fuel _ _ _ h3.2⟩) fun _ _ h => h⟩

theorem rdI_free {op : Op} (h : isRd op = false) {H H' : IHeap} : rdI P H tm op = rdI P H' tm op := by
  cases op <;> first | rfl | (simp [isRd] at h)

theorem any_first {i : Nat} {oi : Oper} {r : IV} {F : IHeap → Prop} (hi : ops[i]? = some oi) (hQ : ∀ (c : List PanicEntry) (i : Nat) (oi : Oper) (x : IV) (tm : Tm) (H : IHeap), ops[i]? = some oi → Q (.panic c) (updO tm oi.dst x) H → Q (.panic c) tm H) :
    ∀ (fuel : Nat) (listed : Array Bool) (S : Pend) (tm : Tm) (H : IHeap),
      (∀ tm' H', Same ops oi tm tm' → F H' → PureAt P ops oi r tm' H') →
      (∀ j oj, ops[j]? = some oj → j ≠ i → listed.getD j true = false → direct oj i = false → oi.apart ops oj = true) →
      i ∈ Region.ready .any ops listed → PureAt P ops oi r tm H →
      vcAny P ops Q ((i, F) :: S) fuel (listed.setIfInBounds i true) (updO tm oi.dst r) H → vcAny P ops Q S (fuel + 1) listed tm H := by
  intro fuel
  induction fuel with
  | zero =>
    intro listed S tm H hF hfree hr hst h
    refine ⟨fun e => (by rw [e] at hr; cases hr), fun j hj o ho => ?_⟩
    by_cases hji : j = i
    · subst hji
      rw [hi] at ho
      cases ho
      exact hst _ _ ⟨fun e => absurd rfl e, any_weak _ _ _ _ h⟩
    · have := ready_mono hj hji
      rw [h.1] at this
      cases this
  | succ fuel ih =>
    intro listed S tm H hF hfree hr hst h
    refine ⟨fun e => (by rw [e] at hr; cases hr), fun j hj o ho => ?_⟩
    by_cases hji : j = i
    · subst hji
      rw [hi] at ho
      cases ho
      exact hst _ _ ⟨fun e => absurd rfl e, any_weak _ _ _ _ h⟩
    · have h1 := h.2 j (ready_mono hj hji) o ho
      obtain ⟨hjun, o', ho', hall⟩ := mem_ready.1 hj
      rw [ho] at ho'
      cases ho'
      have hnot : direct o i = false := by
        unfold direct
        cases hd : o.after.any fun e => Region.binds .any e && e.on == i with
        | false => rfl
        | true =>
          obtain ⟨e, he, hb⟩ := Array.any_eq_true'.1 hd
          simp only [Bool.and_eq_true, beq_iff_eq] at hb
          have h1 := hall e he hb.1
          have h0 := (mem_ready.1 hr).1
          rw [hb.2] at h1
          rcases Nat.lt_or_ge i listed.size with h' | h'
          · simp [h'] at h0 h1; rw [h0] at h1; cases h1
          · simp [Array.getElem?_eq_none h'] at h1
      obtain ⟨a1, a2, a3⟩ := Oper.apart_spec (hfree j o ho hji hjun hnot)
      have hsame : Same ops o (updO tm oi.dst r) tm := Same.upd a1
      rw [vcOne_congr hsame] at h1
      refine vcOne_mono h1 (fun x H' h3 => ?_) (fun c H' h3 => hQ _ _ _ _ _ _ hi h3)
      obtain ⟨h3, h4⟩ := h3
      refine ⟨fun e q hq => h3 e q (List.mem_cons_of_mem _ hq), ?_⟩
      have hs : Same ops oi (updO tm o.dst x) tm := Same.upd a3
      refine ih (listed.setIfInBounds j true) S (updO tm o.dst x) H' (fun tm' H'' e f => hF tm' H'' (hs.symm.trans e) f) ?_ (ready_mono hr (Ne.symm hji)) ?_ ?_
      · intro k ok hk hki hun hno
        refine hfree k ok hk hki ?_ hno
        by_cases hjk : j = k
        · subst hjk; exact hjun
        · rw [getD_set_ne true hjk] at hun; exact hun
      · by_cases e : H' = H
        · subst e
          exact hst.congr hs.symm
        · exact hF _ _ hs.symm (h3 e (i, F) (by simp) hnot)
      · rw [Array.setIfInBounds_comm _ _ hji, updO_comm (d := o.dst) (e := oi.dst) (fun d hd e => a2 d e hd)]
        exact h4

theorem any_triv {i : Nat} {S : Pend} : ∀ (fuel : Nat) (listed : Array Bool) (tm : Tm) (H : IHeap), vcAny P ops Q S fuel listed tm H → vcAny P ops Q ((i, fun _ => True) :: S) fuel listed tm H
  | 0, _, _, _, h => h
  | fuel + 1, listed, tm, H, h => ⟨h.1, fun j hj o ho => vcOne_mono (h.2 j hj o ho) (fun x H' h3 => ⟨fun e p hp => by
      rcases List.mem_cons.1 hp with hp | hp
      · subst hp; exact fun _ => trivial
      · exact h3.1 e p hp, any_triv fuel _ _ _ h3.2⟩) fun _ _ h => h⟩

theorem want_run {o : Oper} {b : Bool} {a : Act} {w : World} {g : Gs} (hok : ops.toList.all (okO N) = true) (hN : a.tmps.size = N) (ra : RA w g a tm) (h : wantV ops tm o = some b) : Region.wanted o (yielded ops a.tmps) = b := by
  unfold wantV at h
  unfold Region.wanted
  split at h
  · rename_i hg
    rw [hg]
    simpa using h
  · rename_i j c hg
    rw [hg]
    split at h
    · rename_i d hd
      have hdN : d < a.tmps.size := by
        rw [Option.bind_eq_some_iff] at hd
        obtain ⟨o', h1, h2⟩ := hd
        have := List.all_eq_true.1 hok o' (by rw [Array.mem_toList_iff]; exact Array.mem_of_getElem? h1)
        simp only [okO, h2, Bool.and_eq_true, decide_eq_true_eq] at this
        rw [hN]; exact this.2
      split at h
      · rename_i q hq
        have h1 := ra d hdN
        rw [hq] at h1
        have h2 := h1.v_eq
        have h3 : a.tmps[d]? = some (.bool q) := by
          rw [Array.getElem?_eq_getElem hdN]
          simpa [hdN] using h2
        simp only [Option.some.injEq] at h
        simp [yielded, hd, h3, h]
      · rename_i y hne hq
        simp only [Option.some.injEq] at h
        subst h
        have h1 := ra d hdN
        rw [hq] at h1
        have h2 := h1.v_eq
        have h3 : a.tmps[d]? = some y := by
          rw [Array.getElem?_eq_getElem hdN]
          simpa [hdN] using h2
        have h4 : yielded ops a.tmps j = none := by
          simp only [yielded, hd, Option.bind_some, h3]
          split
          · rename_i c e
            cases e
            exact (hne c rfl).elim
          · rfl
        simp [h4]
      · cases h
    · cases h

theorem any_sound (hok : ops.toList.all (okO N) = true) {rr : Option Nat} {B : Nat} {D : List Deferred} {w0 : World} {g0 : Gs} {H0 : IHeap} (s0 : Sim w0 g0 H0) : ∀ (fuel : Nat) (listed : Array Bool) (tm : Tm) (H : IHeap), vcAny P ops Q [] fuel listed tm H →
    ∀ (w : World) (g : Gs) (a : Act), Mono w0 g0 w g → Sim w g H → RA w g a tm → a.tmps.size = N → B ≤ w.heap.size → Marks rr B D w g a.defers → wpAnyIn (FR rr) 0 P .any ops (Post rr B D N Q w0 g0) fuel listed a w
  | 0, listed, tm, H, h, w, g, a, m, s, ra, hN, hB, hm => ⟨h.1, tm, g, H, m, s, ra, hN, hm, by simp, h.2⟩
  | fuel + 1, listed, tm, H, h, w, g, a, m, s, ra, hN, hB, hm => by
    refine ⟨fun e => ⟨tm, g, H, m, s, ra, hN, hm, by simp, h.1 e⟩, fun j hj => ?_⟩
    obtain ⟨_, o, ho, _⟩ := mem_ready.1 hj
    have h1 := h.2 j hj o ho
    have hoo : okO N o = true := List.all_eq_true.1 hok o (by rw [Array.mem_toList_iff]; exact Array.mem_of_getElem? ho)
    unfold vcOne at h1
    split at h1
    · rename_i hw
      have hw' := want_run hok hN ra hw
      have hio := vcS_sound hoo h1
      simp only [wpOpIn, ho, hw', if_true]
      unfold Oper.wpIn
      refine ⟨FR_about, ?_⟩
      have hsem : o.semAt (FR rr).round a.eval = execOp a.eval o := Oper.semAt_eq _ _ _ hio.nd
      rw [hsem]
      refine uponIn_mono ?_ ?_ ⟨rr, rfl⟩ (hio.run rr w g a s ra hN)
      · rintro a' w' ⟨x, i, g', H', rfl, m', s', hr, hk⟩
        exact any_sound hok s0 fuel _ _ _ hk.2 w' g' _ (m.tr m' s0 s) s' ((ra.mono m').put hr) (by rw [put_size]; exact hN) (Nat.le_trans hB m'.size) (by rw [put_defers]; exact hm.mono m')
      · rintro e a' w' ⟨ch, g', H', rfl, rfl, m', s', hq⟩
        exact ⟨tm, g', H', m.tr m' s0 s, s', ra.mono m', hN, hm.mono m', by simp, hq⟩
    · rename_i hw
      have hw' := want_run hok hN ra hw
      simp only [wpOpIn, ho, hw', Bool.false_eq_true, if_false]
      exact ⟨FR_about, any_sound hok s0 fuel _ _ _ h1.2 w g _ m s (ra.put (.v _)) (by rw [put_size]; exact hN) hB (by rw [put_defers]; exact hm)⟩
    · exact h1.elim

/-! ### One order that is told -/

def KeepsL (o : Oper) (H : IHeap) : Pend → Prop
  | [] => True
  | (i, F) :: S => (direct o i = false → F H) ∧ KeepsL o H S

theorem KeepsL.keeps {o : Oper} {H : IHeap} : ∀ {S : Pend}, KeepsL o H S → Keeps S o H
  | [], _, q, hq => by simp at hq
  | (i, F) :: S, h, q, hq => by
    rcases List.mem_cons.1 hq with e | e
    · subst e; exact h.1
    · exact h.2.keeps q e

def dRd (P : Program) (V : Pend → Tm → IHeap → Prop) (i : Nat) (o : Oper) (S : Pend) (tm : Tm) : IV → IHeap → Prop := fun x H =>
  V (match isRd o.op with | true => (i, fun H' => keepE (rdI P H' tm o.op) x) :: S | false => S) (updO tm o.dst x) H

def dX (V : Pend → Tm → IHeap → Prop) (o : Oper) (S : Pend) (tm : Tm) : IV → IHeap → Prop := fun x H => KeepsL o H S ∧ V S (updO tm o.dst x) H

def dRun (P : Program) (V : Pend → Tm → IHeap → Prop) (Q : Exit → Tm → IHeap → Prop) (i : Nat) (o : Oper) (S : Pend) (H : IHeap) : Tm → Prop := fun tm =>
  match isX o.op with
  | true => xI P H tm o.op (dX V o S tm) (kPan Q tm)
  | false => bindE (liftP (rdI P H tm o.op) H) (dRd P V i o S tm) False

def dSkip (V : Pend → Tm → IHeap → Prop) (o : Oper) (S : Pend) (H : IHeap) : Tm → Prop := fun tm => V S (updO tm o.dst (.v undef)) H

def PureC (P : Program) (H0 : IHeap) (f : FuncId) (args : List IV) (V : (IHeap → Prop) → IV → Prop) : Prop := ∃ (T : IHeap → Prop) (r : IV), T H0 ∧ (∀ (H : IHeap) (K : IEnd → IHeap → Prop), T H → K (.ret r) H → ICalls P f args H K) ∧ V T r

def kPure (P : Program) (H0 : IHeap) (args : List IV) (V : (IHeap → Prop) → IV → Prop) : FuncId → List IV → Prop := fun f cap => PureC P H0 f (args ++ cap) V

def dPure (P : Program) (V : Pend → Tm → IHeap → Prop) (i : Nat) (o : Oper) (S : Pend) (H : IHeap) : Tm → Prop := fun tm =>
  match o.op with
  | .call { callee := .value x, args, .. } => callE (fnP (ev tm x)) (kPure P H (args.toList.map (ev tm)) fun T r => V ((i, T) :: S) (updO tm o.dst r) H) False
  | _ => False

def inP : List Nat → Nat → Bool
  | [], _ => false
  | a :: l, i => if a = i then true else inP l i

def dOne (P : Program) (V : Pend → Tm → IHeap → Prop) (Q : Exit → Tm → IHeap → Prop) (i : Nat) (o : Oper) (S : Pend) (H : IHeap) : Bool → Tm → Prop
  | true => dPure P V i o S H
  | false => dRun P V Q i o S H

def vcD (P : Program) (ops : Array Oper) (Q : Exit → Tm → IHeap → Prop) (Pu : List Nat) : List Nat → Pend → Tm → IHeap → Prop
  | [], _, tm, H => Q .normal tm H
  | i :: L, S, tm, H =>
    match ops[i]? with
    | none => False
    | some o => vcG ops o tm (dOne P (vcD P ops Q Pu L) Q i o S H (inP Pu i)) (dSkip (vcD P ops Q Pu L) o S H)

def chkD (ops : Array Oper) (Pu : List Nat) : List Nat → Array Bool → Bool
  | [], listed => (Region.ready .any ops listed).isEmpty
  | i :: L, listed =>
    match ops[i]? with
    | none => false
    | some o => (match isX o.op && !inP Pu i with | true => Region.ready .any ops listed == [i] | false => (Region.ready .any ops listed).contains i && Region.free .any ops listed i) && chkD ops Pu L (listed.setIfInBounds i true)

theorem dPure_at {V : Pend → Tm → IHeap → Prop} {i : Nat} {o : Oper} {S : Pend} (hw : wantV ops tm o = some true) (h : dPure P V i o S H tm) : ∃ (T : IHeap → Prop) (r : IV), T H ∧ (∀ tm' H', Same ops o tm tm' → T H' → PureAt P ops o r tm' H') ∧ V ((i, T) :: S) (updO tm o.dst r) H := by
  unfold dPure at h
  split at h
  · rename_i x args ats ho
    unfold callE at h
    split at h
    · rename_i f cap hf
      obtain ⟨T, r, h0, h1, h2⟩ := h
      refine ⟨T, r, h0, fun tm' H' hs hT => PureAt.congr hs fun K Qp hK => ?_, h2⟩
      unfold vcOne
      rw [hw]
      show vcS P o tm H' K Qp
      have hX : isX o.op = true := by rw [ho]; rfl
      unfold vcS
      rw [hX, ho]
      show callE (fnP (ev tm x)) (kCall P (args.toList.map (ev tm)) H' K Qp) False
      rw [hf]
      exact h1 H' _ hT hK
    · exact h.elim
  · exact h.elim

theorem vcG_want {full : Array Oper} {o : Oper} {run skip : Tm → Prop} (h : vcG full o tm run skip) : (wantV full tm o = some true ∧ run tm) ∨ (wantV full tm o = some false ∧ skip tm) := by
  unfold vcG at h
  unfold wantV
  split at h
  · rename_i hg
    exact .inl ⟨by rw [hg], h⟩
  · rename_i j b hg
    rw [hg]
    split at h
    · rename_i d hd
      simp only [hd]
      unfold splitG at h
      split at h
      · rename_i c hc
        rw [hc]
        simp only
        have key : pickB c b (run tm) (skip tm) := by
          cases c with
          | true => have := h.1 rfl; dsimp only at this; rwa [upd_self hc] at this
          | false => have := h.2 rfl; dsimp only at this; rwa [upd_self hc] at this
        unfold pickB at key
        split at key
        · rename_i e; exact .inl ⟨by rw [e]; simp, key⟩
        · rename_i e; exact .inr ⟨by simp [e], key⟩
      · rename_i y hne hc
        refine .inr ⟨?_, h⟩
        rw [hc]
        split
        · rename_i c e
          cases e
          exact (hne c rfl).elim
        · rfl
        · rename_i e1 e2
          exact (e2 y rfl).elim
      · exact h.elim
    · exact h.elim

theorem vcD_any {Pu : List Nat} (hQ : ∀ (c : List PanicEntry) (i : Nat) (oi : Oper) (x : IV) (tm : Tm) (H : IHeap), ops[i]? = some oi → Q (.panic c) (updO tm oi.dst x) H → Q (.panic c) tm H) (hs : Region.noSelect ops = true) : ∀ (L : List Nat) (listed : Array Bool) (S : Pend) (tm : Tm) (H : IHeap), chkD ops Pu L listed = true → vcD P ops Q Pu L S tm H →
    vcAny P ops Q S L.length listed tm H
  | [], listed, S, tm, H, hc, h => ⟨List.isEmpty_iff.1 hc, h⟩
  | i :: L, listed, S, tm, H, hc, h => by
    unfold chkD at hc
    unfold vcD at h
    cases ho : ops[i]? with
    | none => simp [ho] at hc
    | some o =>
      simp only [ho, Bool.and_eq_true] at hc h
      obtain ⟨hc1, hc2⟩ := hc
      have hg := vcG_want h
      cases hX : isX o.op && !inP Pu i with
      | true =>
        simp only [hX, beq_iff_eq] at hc1
        simp only [Bool.and_eq_true, Bool.not_eq_true'] at hX
        obtain ⟨hX, hP⟩ := hX
        refine ⟨fun e => (by rw [hc1] at e; cases e), fun j hj o' ho' => ?_⟩
        rw [hc1, List.mem_singleton] at hj
        subst hj
        rw [ho] at ho'
        cases ho'
        unfold vcOne
        rcases hg with ⟨h1, h2⟩ | ⟨h1, h2⟩
        · rw [h1]
          simp only [hP, dOne, dRun, hX] at h2
          have h3 : vcS P o tm H (dX (vcD P ops Q Pu L) o S tm) (kPan Q tm) := by unfold vcS; rw [hX]; exact h2
          exact vcS_mono h3 (fun x H' q => ⟨fun _ => q.1.keeps, vcD_any hQ hs L _ _ _ _ hc2 q.2⟩) (fun _ _ q => q)
        · rw [h1]
          exact ⟨fun e => absurd rfl e, vcD_any hQ hs L _ _ _ _ hc2 h2⟩
      | false =>
        simp only [hX, Bool.and_eq_true] at hc1
        have hr : i ∈ Region.ready .any ops listed := by simpa using hc1.1
        have hfree : ∀ j oj, ops[j]? = some oj → j ≠ i → listed.getD j true = false → direct oj i = false → o.apart ops oj = true := by
          intro j oj hj hne hun hd
          refine Region.free_spec ho hc1.2 j oj hj hne hun fun e he hb heq => ?_
          have : direct oj i = true := Array.any_eq_true'.2 ⟨e, he, by simp [hb, heq]⟩
          rw [hd] at this
          cases this
        rcases hg with ⟨h1, h2⟩ | ⟨h1, h2⟩
        · cases hP : inP Pu i with
          | true =>
            simp only [hP, dOne] at h2
            obtain ⟨T, r, h0, h3, h4⟩ := dPure_at h1 h2
            exact any_first (F := T) ho hQ L.length listed S tm H (fun tm' H' e hT => h3 tm' H' e hT) hfree hr (h3 tm H (fun _ _ => rfl) h0) (vcD_any hQ hs L _ _ _ _ hc2 h4)
          | false =>
            have hX : isX o.op = false := by simpa [hP] using hX
            simp only [hP, dOne, dRun, hX] at h2
            unfold bindE liftP at h2
            cases hrd : rdI P H tm o.op with
            | none => simp only [hrd] at h2
            | some q =>
              obtain ⟨sd, r⟩ := q
              simp only [hrd] at h2
              obtain ⟨h3, h4⟩ := h2
              have hst : Stable P ops o r tm H := .inl ⟨h1, by unfold keepE; rw [hrd]; exact ⟨h3, rfl⟩⟩
              unfold dRd at h4
              cases hRd : isRd o.op with
              | true =>
                simp only [hRd] at h4
                refine any_first ho hQ L.length listed S tm H ?_ hfree hr (hst.one hX) (vcD_any hQ hs L _ _ _ _ hc2 h4)
                intro tm' H' hsm hF
                exact Stable.one hX (.inl ⟨by rw [← hsm.want]; exact h1, by rw [← rdI_congr hsm.ev]; exact hF⟩)
              | false =>
                simp only [hRd] at h4
                refine any_first (F := fun _ => True) ho hQ L.length listed S tm H ?_ hfree hr (hst.one hX) (any_triv _ _ _ _ (vcD_any hQ hs L _ _ _ _ hc2 h4))
                intro tm' H' hsm _
                refine Stable.one hX (.inl ⟨by rw [← hsm.want]; exact h1, ?_⟩)
                rw [← rdI_congr hsm.ev, rdI_free hRd (H' := H)]
                unfold keepE
                rw [hrd]
                exact ⟨h3, rfl⟩
        · refine any_first (F := fun _ => True) ho hQ L.length listed S tm H ?_ hfree hr (.skip h1) (any_triv _ _ _ _ (vcD_any hQ hs L _ _ _ _ hc2 h2))
          intro tm' H' hsm _
          exact .skip (by rw [← hsm.want]; exact h1)

theorem IWp_drawQ {id : Nat} (Pu L : List Nat) (hm : P.follows .mixedOrders = true) (hc : (ops.toList.all (okO N) && Region.noSelect ops && chkD ops Pu L (Array.replicate ops.size false) && L.length == ops.size) = true)
    (hQ : ∀ (c : List PanicEntry) (i : Nat) (oi : Oper) (x : IV) (tm : Tm) (H : IHeap), ops[i]? = some oi → Q (.panic c) (updO tm oi.dst x) H → Q (.panic c) tm H) (h : vcD P ops Q Pu L [] tm H) : IWp P N (.region id ops true) Q tm H := by
  simp only [Bool.and_eq_true, beq_iff_eq] at hc
  obtain ⟨⟨⟨h1, h2⟩, h3⟩, h4⟩ := hc
  refine ⟨fun rr B D w g a s ra hN hB hmk => ?_⟩
  have hany := vcD_any hQ h2 L _ [] tm H h3 h
  rw [h4] at hany
  have m' : Mono w g { w with drawn := w.drawn + 1 } g := ⟨Nat.le_refl _, rfl, rfl, rfl, fun _ _ _ => rfl, fun _ _ e => e, rfl, Nat.le_refl _, fun _ _ e => ⟨e, rfl⟩, fun k m' _ e => ⟨m', e, Nat.le_refl _, fun _ => rfl⟩⟩
  have s' : Sim { w with drawn := w.drawn + 1 } g H := ⟨s.nx, s.sh, s.lt, s.bk, s.inj, fun k o ho => ObjR.mono m' (fun _ _ => rfl) (s.obj k o ho), s.old, fun p hp i hi => (s.snap p hp i hi).mono m'⟩
  exact wpIn_region_any hm (any_sound h1 s ops.size _ tm H hany _ g a m' s' (ra.mono m') hN hB (hmk.mono m'))

theorem IWp_drawP {id : Nat} (Pu L : List Nat) (hm : P.follows .mixedOrders = true) (hc : (ops.toList.all (okO N) && Region.noSelect ops && chkD ops Pu L (Array.replicate ops.size false) && L.length == ops.size) = true)
    (hQ : ∀ c tm tm' H, Q (.panic c) tm H → Q (.panic c) tm' H) (h : vcD P ops Q Pu L [] tm H) : IWp P N (.region id ops true) Q tm H := IWp_drawQ Pu L hm hc (fun c _ _ _ _ _ _ h => hQ c _ _ _ h) h

theorem IWp_draw {id : Nat} (L : List Nat) (hm : P.follows .mixedOrders = true) (hc : (ops.toList.all (okO N) && Region.noSelect ops && chkD ops [] L (Array.replicate ops.size false) && L.length == ops.size) = true)
    (hQ : ∀ c tm tm' H, Q (.panic c) tm H → Q (.panic c) tm' H) (h : vcD P ops Q [] L [] tm H) : IWp P N (.region id ops true) Q tm H := IWp_drawP [] L hm hc hQ h

end Go.Idl

namespace Go.Idl

open Go Go.RowKit

variable {P : Program} {N : Nat} {tm : Tm} {H : IHeap} {Q : Exit → Tm → IHeap → Prop}

def dOp (P : Program) (l : List Oper) (V : Pend → Tm → IHeap → Prop) (Q : Exit → Tm → IHeap → Prop) (b : Bool) (i : Nat) (S : Pend) (tm : Tm) (H : IHeap) : Option Oper → Prop
  | none => False
  | some o => vcG ⟨l⟩ o tm (dOne P V Q i o S H b) (dSkip V o S H)

@[go_sem] theorem vcD_nil {ops : Array Oper} {S : Pend} {Pu : List Nat} : vcD P ops Q Pu [] S tm H = Q .normal tm H := rfl

@[go_sem] theorem vcD_cons {l : List Oper} {i : Nat} {L Pu : List Nat} {S : Pend} : vcD P ⟨l⟩ Q Pu (i :: L) S tm H = dOp P l (vcD P ⟨l⟩ Q Pu L) Q (inP Pu i) i S tm H l[i]? := by
  rw [vcD]
  simp only [List.getElem?_toArray]
  cases l[i]? <;> rfl

section

variable {l : List Oper} {V : Pend → Tm → IHeap → Prop} {i : Nat} {S : Pend} {d : Option Tmp} {t : TypeId} {p : String} {af : Array Edge} {gd : Option (Nat × Bool)}

@[go_sem] theorem dOp_none {op : Op} {c : Bool} : dOp P l V Q c i S tm H (some ⟨d, op, t, p, af, none⟩) = dOne P V Q i ⟨d, op, t, p, af, none⟩ S H c tm := rfl

@[go_sem] theorem dOp_some {op : Op} {j : Nat} {b c : Bool} : dOp P l V Q c i S tm H (some ⟨d, op, t, p, af, some (j, b)⟩) = vcH (dstOf l j) b tm (dOne P V Q i ⟨d, op, t, p, af, some (j, b)⟩ S H c) (dSkip V ⟨d, op, t, p, af, some (j, b)⟩ S H) := by
  show vcG ⟨l⟩ ⟨d, op, t, p, af, some (j, b)⟩ tm (dOne P V Q i ⟨d, op, t, p, af, some (j, b)⟩ S H c) (dSkip V ⟨d, op, t, p, af, some (j, b)⟩ S H) = vcH ((l[j]?).bind (·.dst)) b tm _ _
  unfold vcG vcH
  simp only [List.getElem?_toArray]
  cases (l[j]?).bind (·.dst) <;> rfl

@[go_sem] theorem dOne_t {o : Oper} {Q : Exit → Tm → IHeap → Prop} : dOne P V Q i o S H true tm = dPure P V i o S H tm := rfl

@[go_sem] theorem dOne_f {o : Oper} {Q : Exit → Tm → IHeap → Prop} : dOne P V Q i o S H false tm = dRun P V Q i o S H tm := rfl

@[go_sem] theorem inP_nil : inP [] i = false := rfl

@[go_sem] theorem inP_cons {a : Nat} {m : List Nat} : inP (a :: m) i = if a = i then true else inP m i := rfl

@[go_sem] theorem dPure_call {x : Operand} {m : List Operand} {ats : Array TypeId} : dPure P V i ⟨d, .call ⟨.value x, ⟨m⟩, ats⟩, t, p, af, gd⟩ S H tm =
    callE (fnP (ev tm x)) (kPure P H (m.map (ev tm)) fun T r => V ((i, T) :: S) (updO tm d r) H) False := rfl

@[go_sem] theorem kPure_app {args cap : List IV} {W : (IHeap → Prop) → IV → Prop} {f : FuncId} : kPure P H args W f cap = PureC P H f (args ++ cap) W := rfl

theorem PureC.mk {f : FuncId} {args : List IV} {W : (IHeap → Prop) → IV → Prop} (r : IV) (h : ∀ (H : IHeap) (K : IEnd → IHeap → Prop), K (.ret r) H → ICalls P f args H K) (hW : W (fun _ => True) r) : PureC P H f args W := ⟨_, r, trivial, fun H K _ => h H K, hW⟩

theorem PureC.mkT {f : FuncId} {args : List IV} {W : (IHeap → Prop) → IV → Prop} (T : IHeap → Prop) (r : IV) (hT : T H) (h : ∀ (H : IHeap) (K : IEnd → IHeap → Prop), T H → K (.ret r) H → ICalls P f args H K) (hW : W T r) : PureC P H f args W := ⟨T, r, hT, h, hW⟩

@[go_sem] theorem dSkip_app {op : Op} : dSkip V ⟨d, op, t, p, af, gd⟩ S H tm = V S (updO tm d (.v undef)) H := rfl

@[go_sem] theorem dX_app {op : Op} {x : IV} : dX V ⟨d, op, t, p, af, gd⟩ S tm x H = (KeepsL ⟨d, op, t, p, af, gd⟩ H S ∧ V S (updO tm d x) H) := rfl

@[go_sem] theorem dRd_app {op : Op} {x : IV} : dRd P V i ⟨d, op, t, p, af, gd⟩ S tm x H = V (match isRd op with | true => (i, fun H' => keepE (rdI P H' tm op) x) :: S | false => S) (updO tm d x) H := rfl

@[go_sem] theorem KeepsL_nil {o : Oper} : KeepsL o H [] = True := rfl

@[go_sem] theorem KeepsL_cons {o : Oper} {F : IHeap → Prop} : KeepsL o H ((i, F) :: S) = ((direct o i = false → F H) ∧ KeepsL o H S) := rfl

def anyE : List Edge → Nat → Bool
  | [], _ => false
  | e :: l, i => (Region.binds .any e && e.on == i) || anyE l i

@[go_sem] theorem direct_mk {op : Op} {l : List Edge} : direct ⟨d, op, t, p, ⟨l⟩, gd⟩ i = anyE l i := by
  unfold direct
  simp only [List.any_toArray]
  induction l with
  | nil => rfl
  | cons e l ih => simp only [List.any_cons, anyE, ih]

@[go_sem] theorem keepE_some {s : Prop} {x r : IV} : keepE (some (s, x)) r = (s ∧ x = r) := rfl

@[go_sem] theorem keepE_none {r : IV} : keepE none r = False := rfl

@[go_sem] theorem rdI_load {a : TypeId} {x : Operand} : rdI P H tm (.load a x) = ldX P H a (ev tm x) := rfl

@[go_sem] theorem rdI_ix {a : TypeId} {x y : Operand} : rdI P H tm (.indexAddr a x y) = ixX P H a (ev tm x) (ev tm y) := rfl

@[go_sem] theorem rdI_lookup {a : TypeId} {x y : Operand} {k : Bool} : rdI P H tm (.lookup a x y k) = lkX P H a (ev tm x) (ev tm y) k := rfl

@[go_sem] theorem dRun_lookup {a : TypeId} {x y : Operand} {k : Bool} : dRun P V Q i ⟨d, .lookup a x y k, t, p, af, gd⟩ S H tm = bindE (liftP (lkX P H a (ev tm x) (ev tm y) k) H) (dRd P V i ⟨d, .lookup a x y k, t, p, af, gd⟩ S tm) False := rfl

@[go_sem] theorem dRun_mapUpdate {a : TypeId} {x y z : Operand} : dRun P V Q i ⟨d, .mapUpdate a x y z, t, p, af, gd⟩ S H tm = bindE (muX P H a (ev tm x) (ev tm y) (ev tm z)) (dX V ⟨d, .mapUpdate a x y z, t, p, af, gd⟩ S tm) False := rfl

@[go_sem] theorem dRun_call {x : Operand} {l : List Operand} {ats : Array TypeId} : dRun P V Q i ⟨d, .call ⟨.value x, ⟨l⟩, ats⟩, t, p, af, gd⟩ S H tm =
    callE (fnP (ev tm x)) (kCall P (l.map (ev tm)) H (dX V ⟨d, .call ⟨.value x, ⟨l⟩, ats⟩, t, p, af, gd⟩ S tm) (kPan Q tm)) False := rfl

@[go_sem] theorem dRun_append {x y : Operand} {a b : TypeId} : dRun P V Q i ⟨d, .call ⟨.builtin .append, #[x, y], #[a, b]⟩, t, p, af, gd⟩ S H tm =
    bindE (apI P H a b (ev tm x) (ev tm y)) (dX V ⟨d, .call ⟨.builtin .append, #[x, y], #[a, b]⟩, t, p, af, gd⟩ S tm) False := rfl

@[go_sem] theorem dRun_alloc {a : TypeId} : dRun P V Q i ⟨d, .alloc a, t, p, af, gd⟩ S H tm = bindE (alX P H a) (dX V ⟨d, .alloc a, t, p, af, gd⟩ S tm) False := rfl

@[go_sem] theorem dRun_box {a : TypeId} {x : Operand} : dRun P V Q i ⟨d, .box a x, t, p, af, gd⟩ S H tm = bindE (bxX H (ev tm x)) (dX V ⟨d, .box a x, t, p, af, gd⟩ S tm) False := rfl

@[go_sem] theorem dRun_store {a : TypeId} {x y : Operand} : dRun P V Q i ⟨d, .store a x y, t, p, af, gd⟩ S H tm = bindE (stX P H a (ev tm x) (ev tm y)) (dX V ⟨d, .store a x y, t, p, af, gd⟩ S tm) False := rfl

@[go_sem] theorem dRun_len {x : Operand} {a : TypeId} : dRun P V Q i ⟨d, .call ⟨.builtin .len, #[x], #[a]⟩, t, p, af, gd⟩ S H tm =
    bindE (liftP (lenP (P.underlying a) (ev tm x)) H) (dRd P V i ⟨d, .call ⟨.builtin .len, #[x], #[a]⟩, t, p, af, gd⟩ S tm) False := rfl

@[go_sem] theorem dRun_move {x : Operand} : dRun P V Q i ⟨d, .move x, t, p, af, gd⟩ S H tm = dRd P V i ⟨d, .move x, t, p, af, gd⟩ S tm (ev tm x) H := true_and _

@[go_sem] theorem dRun_assign {x : Operand} : dRun P V Q i ⟨d, .assign x, t, p, af, gd⟩ S H tm = dRd P V i ⟨d, .assign x, t, p, af, gd⟩ S tm (ev tm x) H := true_and _

@[go_sem] theorem dRun_load {a : TypeId} {x : Operand} : dRun P V Q i ⟨d, .load a x, t, p, af, gd⟩ S H tm = bindE (liftP (ldX P H a (ev tm x)) H) (dRd P V i ⟨d, .load a x, t, p, af, gd⟩ S tm) False := rfl

@[go_sem] theorem dRun_indexAddr {a : TypeId} {x y : Operand} : dRun P V Q i ⟨d, .indexAddr a x y, t, p, af, gd⟩ S H tm = bindE (liftP (ixX P H a (ev tm x) (ev tm y)) H) (dRd P V i ⟨d, .indexAddr a x y, t, p, af, gd⟩ S tm) False := rfl

def pkI (c x y : IV) : Option (Prop × IV) :=
  match c with
  | .v (.bool q) => some (True, if q = true then x else y)
  | _ => none

@[go_sem] theorem pkI_true {x y : IV} : pkI (.v (.bool true)) x y = some (True, x) := rfl

@[go_sem] theorem pkI_false {x y : IV} : pkI (.v (.bool false)) x y = some (True, y) := rfl

@[go_sem] theorem dRun_pick {c a b : Operand} : dRun P V Q i ⟨d, .pick c a b, t, p, af, gd⟩ S H tm = bindE (liftP (pkI (ev tm c) (ev tm a) (ev tm b)) H) (dRd P V i ⟨d, .pick c a b, t, p, af, gd⟩ S tm) False := rfl

@[go_sem] theorem dRun_build {a : TypeId} {l : List (Nat × Operand)} : dRun P V Q i ⟨d, .build a ⟨l⟩, t, p, af, gd⟩ S H tm = bindE (liftP (bdP P a (l.map fun q => (q.1, ev tm q.2))) H) (dRd P V i ⟨d, .build a ⟨l⟩, t, p, af, gd⟩ S tm) False := rfl

@[go_sem] theorem dRun_buildSlice {a : TypeId} {n : Nat} {l : List (Nat × Operand)} : dRun P V Q i ⟨d, .buildSlice a n ⟨l⟩, t, p, af, gd⟩ S H tm = bindE (liftP (bzI n (bsI P a n (l.map fun q => (q.1, ev tm q.2)))) H) (dRd P V i ⟨d, .buildSlice a n ⟨l⟩, t, p, af, gd⟩ S tm) False := rfl

@[go_sem] theorem dRun_nilCheck {x : Operand} : dRun P V Q i ⟨d, .nilCheck x, t, p, af, gd⟩ S H tm = bindE (liftP (ncP (ev tm x)) H) (dRd P V i ⟨d, .nilCheck x, t, p, af, gd⟩ S tm) False := rfl

@[go_sem] theorem dRun_binOp {op : BinOp} {a b : TypeId} {x y : Operand} : dRun P V Q i ⟨d, .binOp op a x y b, t, p, af, gd⟩ S H tm = bindE (liftP (bin3 P op a tm x y) H) (dRd P V i ⟨d, .binOp op a x y b, t, p, af, gd⟩ S tm) False := rfl

@[go_sem] theorem dRun_unOp {op : UnOp} {a : TypeId} {x : Operand} : dRun P V Q i ⟨d, .unOp op a x, t, p, af, gd⟩ S H tm = bindE (liftP (unP op (ev tm x)) H) (dRd P V i ⟨d, .unOp op a x, t, p, af, gd⟩ S tm) False := rfl

@[go_sem] theorem dRun_convert {a b : TypeId} {x : Operand} : dRun P V Q i ⟨d, .convert a b x, t, p, af, gd⟩ S H tm = bindE (liftP (cvP P a b (ev tm x)) H) (dRd P V i ⟨d, .convert a b x, t, p, af, gd⟩ S tm) False := rfl

@[go_sem] theorem dRun_makeInterface {a : TypeId} {x : Operand} : dRun P V Q i ⟨d, .makeInterface a x, t, p, af, gd⟩ S H tm = bindE (liftP (mkP P a (ev tm x)) H) (dRd P V i ⟨d, .makeInterface a x, t, p, af, gd⟩ S tm) False := rfl

@[go_sem] theorem dRun_slice {a : TypeId} {x : Operand} {lo hi mx : Option Operand} : dRun P V Q i ⟨d, .slice a x lo hi mx, t, p, af, gd⟩ S H tm =
    bindE (liftP (slP P (P.underlying a) (ev tm x) (lo.map (ev tm)) (hi.map (ev tm)) (mx.map (ev tm))) H) (dRd P V i ⟨d, .slice a x lo hi mx, t, p, af, gd⟩ S tm) False := rfl

@[go_sem] theorem dRun_fieldAddr {a : TypeId} {x : Operand} {f : Nat} : dRun P V Q i ⟨d, .fieldAddr a x f, t, p, af, gd⟩ S H tm = bindE (liftP (fdP P (P.underlying a) (ev tm x) f) H) (dRd P V i ⟨d, .fieldAddr a x f, t, p, af, gd⟩ S tm) False := rfl

@[go_sem] theorem dRun_field {a : TypeId} {x : Operand} {f : Nat} : dRun P V Q i ⟨d, .field a x f, t, p, af, gd⟩ S H tm = bindE (liftP (fvP P (P.underlying a) (ev tm x) f) H) (dRd P V i ⟨d, .field a x f, t, p, af, gd⟩ S tm) False := rfl

@[go_sem] theorem dRun_index {a : TypeId} {x y : Operand} : dRun P V Q i ⟨d, .index a x y, t, p, af, gd⟩ S H tm = bindE (liftP (ivP P (P.underlying a) (ev tm x) (ev tm y)) H) (dRd P V i ⟨d, .index a x y, t, p, af, gd⟩ S tm) False := rfl

@[go_sem] theorem dRun_extract {x : Operand} {n : Nat} : dRun P V Q i ⟨d, .extract x n, t, p, af, gd⟩ S H tm = bindE (liftP (exP (ev tm x) n) H) (dRd P V i ⟨d, .extract x n, t, p, af, gd⟩ S tm) False := rfl

end

attribute [go_sem] isRd anyE Region.binds bytes_mk

/-! ### Numbers -/

@[go_sem] theorem wrap_i64 {n : Int} (h1 : -9223372036854775808 ≤ n) (h2 : n ≤ 9223372036854775807) : IntKind.i64.wrap n = n := IntWalk.i64_in n ⟨h1, h2⟩

@[go_sem] theorem wrap_u8 {n : Int} (h1 : 0 ≤ n) (h2 : n ≤ 255) : IntKind.u8.wrap n = n := IntWalk.u8_in n ⟨h1, h2⟩

/-! ### Bounds -/

inductive Bd : IV → Prop
  | v (x : Value) : Bd (.v x)
  | any : Bd .any
  | blk (b : Nat) (xs : Array Value) : Bd (.blk b xs)
  | sl (sz : Nat) (es : List (List IV)) (hn : es.length ≤ maxN) (hs : ∀ e, e ∈ es → e.length = sz) (h : ∀ e, e ∈ es → ∀ c, c ∈ e → Bd c) : Bd (.sl sz es)
  | cp (cs : List IV) (h : ∀ c, c ∈ cs → Bd c) : Bd (.cp cs)
  | ag (cs : List IV) (h : ∀ c, c ∈ cs → Bd c) : Bd (.ag cs)
  | tu (cs : List IV) (h : ∀ c, c ∈ cs → Bd c) : Bd (.tu cs)
  | fn (f : Fn) (a b : List IV) : Bd (.fn f a b)
  | ifc (t : TypeId) (x : IV) (h : Bd x) : Bd (.ifc t x)
  | p (k off : Nat) : Bd (.p k off)
  | mp (k : Nat) : Bd (.mp k)
  | os (k m : Nat) : Bd (.os k m)
  | pr (k m off : Nat) : Bd (.pr k m off)
  | bs (k off m : Nat) : Bd (.bs k off m)

theorem R.bd {w : World} {g : Gs} {x : Value} {i : IV} (h : R w g x i) : Bd i := by
  induction h with
  | v x => exact .v x
  | any x => exact .any
  | blk b xs el f x hb h => exact .blk b xs
  | sl0 a cap sz => exact .sl _ _ (by simp [maxN]) (by simp) (by simp)
  | sl b off cap sz es cv hb hlt hlen hcap hsz hc ho _ ih =>
    refine .sl _ _ hlen hsz fun e he c hc => ?_
    obtain ⟨i, hi⟩ := List.getElem?_of_mem he
    obtain ⟨j, hj⟩ := List.getElem?_of_mem hc
    exact ih i e j c hi hj
  | cp b off cs cv hb hlt hc ho _ ih =>
    refine .cp _ fun c hc => ?_
    obtain ⟨j, hj⟩ := List.getElem?_of_mem hc
    exact ih j c hj
  | ag xs cs hl ho _ ih =>
    refine .ag _ fun c hc => ?_
    obtain ⟨j, hj⟩ := List.getElem?_of_mem hc
    have hlt : j < xs.size := by rw [hl]; exact (List.getElem?_eq_some_iff.1 hj).1
    exact ih j _ c (Array.getElem?_eq_getElem hlt) hj
  | tu xs cs hl _ ih =>
    refine .tu _ fun c hc => ?_
    obtain ⟨j, hj⟩ := List.getElem?_of_mem hc
    have hlt : j < xs.size := by rw [hl]; exact (List.getElem?_eq_some_iff.1 hj).1
    exact ih j _ c (Array.getElem?_eq_getElem hlt) hj
  | fn f xs ys fi ca hl hl' _ _ ih ih' => exact .fn _ _ _
  | ifc t x c _ ih => exact .ifc _ _ ih
  | p k off x hk hx h => exact .p _ _
  | mp k x hk hx h => exact .mp _
  | os k m x hk h hx => exact .os _ _
  | pr k m off x hk hx h => exact .pr _ _ _
  | bs k off m x hk hx h => exact .bs _ _ _

theorem Bd_sl {sz : Nat} {es : List (List IV)} : Bd (.sl sz es) ↔ es.length ≤ maxN ∧ (∀ e, e ∈ es → e.length = sz) ∧ ∀ e, e ∈ es → ∀ c, c ∈ e → Bd c := ⟨fun h => by cases h with | sl _ _ h1 h2 h3 => exact ⟨h1, h2, h3⟩, fun ⟨h1, h2, h3⟩ => .sl _ _ h1 h2 h3⟩

theorem ICalls_vc {f : FuncId} {fn : Func} {c : Code} {args : List IV} {Q : IEnd → IHeap → Prop} (hf : P.funcs[f]? = some fn) (hbd : hasBody P f = true) (hb : fn.body = some c) (hN : fn.ntmps = N)
    (hn : (decide (args.length ≤ N) && fn.results.toList.all (rvN N) && fitC N c) = true)
    (h : H.Wf → (∀ a, a ∈ args → Bd a) → (∀ a, a ∈ args → NB H.next a) → vc P N c (retQ P fn.results.toList H Q) (tm0 args) H) : ICalls P f args H Q := by
  refine ⟨hbd, fun w g vs s rl => ?_⟩
  simp only [Bool.and_eq_true, decide_eq_true_eq] at hn
  refine (ICalls_of_vc hf hbd hb hN ⟨hn.1.1, hn.1.2, hn.2⟩ fun hw => h hw (fun a ha => ?_) (fun a ha => ?_)).run w g vs s rl
  · obtain ⟨j, hj⟩ := List.getElem?_of_mem ha
    have hlt : j < vs.size := by rw [rl.1]; exact (List.getElem?_eq_some_iff.1 hj).1
    exact (rl.2 j _ a (Array.getElem?_eq_getElem hlt) hj).bd
  · obtain ⟨j, hj⟩ := List.getElem?_of_mem ha
    have hlt : j < vs.size := by rw [rl.1]; exact (List.getElem?_eq_some_iff.1 hj).1
    have := (rl.2 j _ a (Array.getElem?_eq_getElem hlt) hj).nb
    rwa [s.nx] at this

end Go.Idl

namespace Go.Idl

open Go Go.RowKit

variable {P : Program} {N : Nat} {tm : Tm} {H : IHeap} {Q : Exit → Tm → IHeap → Prop}

/-! ### Scopes -/

def jumpQ (l : Nat) (J : Tm → IHeap → Prop) (Q : Exit → Tm → IHeap → Prop) : Exit → Tm → IHeap → Prop
  | .goto l', tm, H => l' = l ∧ J tm H
  | .normal, tm, H => Q .normal tm H
  | .exit id, tm, H => Q (.exit id) tm H
  | .ret, tm, H => Q .ret tm H
  | .panic ch, tm, H => Q (.panic ch) tm H
  | .outgrown, tm, H => Q .outgrown tm H

section

variable {b : Frame} {a : Act} {k : List Item} {cs : List Frame} {w : World}

theorem stepR_scope {c : Code} : step P (lone (b.atR a (.code (.scope c) :: k)) cs w) = .next (lone (b.atR a (.code c :: .inScope c :: k)) cs w) :=
  step_lone_go (by simp [stepG, stepG.exec, Frame.atR])

theorem stepR_inScope {c : Code} : step P (lone (b.atR a (.inScope c :: k)) cs w) = .next (lone (b.atR a k) cs w) :=
  step_lone_go (by simp [stepG, stepG.exec, Frame.atR])

end

theorem IWp_scope {c rest : Code} (l : Nat) (J : Tm → IHeap → Prop) (μ : Tm → IHeap → Nat) (hf : findLabel c l = some rest) (first : IWp P N c (jumpQ l J Q) tm H)
    (pass : ∀ tm H, J tm H → IWp P N rest (jumpQ l (fun tm' H' => J tm' H' ∧ μ tm' H' < μ tm H) Q) tm H) : IWp P N (.scope c) Q tm H := by
  refine ⟨fun rr B D w0 g0 a0 s0 r0 hN0 hB0 hm0 => ?_⟩
  intro b k cs hro hb hr
  have hg : gotoIn l (.inScope c :: k) = some (.code rest :: .inScope c :: k) := by simp [gotoIn, hf]
  have key : ∀ n tm H, μ tm H = n → J tm H → ∀ (w : World) (g : Gs) (a : Act), Mono w0 g0 w g → Sim w g H → RA w g a tm → a.tmps.size = N → Marks rr B D w g a.defers →
      ∃ e a' w', Post rr B D N Q w0 g0 e a' w' ∧ ArrivesIn (Machine.fenced P (FR rr)) P (lone (b.atR a (.code rest :: .inScope c :: k)) cs w) b k cs e a' w' := by
    intro n
    induction n using Nat.strongRecOn with
    | _ n ih =>
      intro tm H hn hJ w g a m s r hN hm
      obtain ⟨e, a₁, w₁, ⟨tm1, g1, H1, m1, s1, r1, n1, k1, ne, q⟩, harr⟩ := (pass tm H hJ).run rr B D w g a s r hN (Nat.le_trans hB0 m.size) hm b (.inScope c :: k) cs hro hb hr
      have mm := m.tr m1 s0 s
      cases e with
      | normal => exact ⟨.normal, a₁, w₁, ⟨tm1, g1, H1, mm, s1, r1, n1, k1, ne, q⟩, StepsIn.trans harr (.one (fenced_calm hb hr rfl) stepR_inScope)⟩
      | exit id => exact ⟨.exit id, a₁, w₁, ⟨tm1, g1, H1, mm, s1, r1, n1, k1, ne, q⟩, fun k' hk => harr.1 k' (by simp [exitTo, hk]), fun hr hk => harr.2 hr (by simp [exitTo, hk])⟩
      | goto l' =>
        obtain ⟨rfl, hJ', hlt⟩ := q
        obtain ⟨e₂, a₂, w₂, hq₂, harr₂⟩ := ih _ (hn ▸ hlt) tm1 H1 rfl hJ' w₁ g1 a₁ mm s1 r1 n1 k1
        exact ⟨e₂, a₂, w₂, hq₂, .of_steps (harr.1 _ hg) harr₂⟩
      | ret => exact ⟨_, a₁, w₁, ⟨tm1, g1, H1, mm, s1, r1, n1, k1, ne, q⟩, harr⟩
      | panic ch => exact ⟨_, a₁, w₁, ⟨tm1, g1, H1, mm, s1, r1, n1, k1, ne, q⟩, harr⟩
      | outgrown => exact absurd rfl ne
  obtain ⟨e, a₁, w₁, ⟨tm1, g1, H1, m1, s1, r1, n1, k1, ne, q⟩, harr⟩ := first.run rr B D w0 g0 a0 s0 r0 hN0 hB0 hm0 b (.inScope c :: k) cs hro hb hr
  have h0 : StepsIn (Machine.fenced P (FR rr)) P (lone (b.atR a0 (.code (.scope c) :: k)) cs w0) (lone (b.atR a0 (.code c :: .inScope c :: k)) cs w0) := .one (fenced_calm hb hr rfl) stepR_scope
  cases e with
  | normal => exact ⟨.normal, a₁, w₁, ⟨tm1, g1, H1, m1, s1, r1, n1, k1, ne, q⟩, h0.trans (StepsIn.trans harr (.one (fenced_calm hb hr rfl) stepR_inScope))⟩
  | exit id => exact ⟨.exit id, a₁, w₁, ⟨tm1, g1, H1, m1, s1, r1, n1, k1, ne, q⟩, fun k' hk => h0.trans (harr.1 k' (by simp [exitTo, hk])), fun hr hk => let ⟨k₁, e1, e2⟩ := harr.2 hr (by simp [exitTo, hk]); ⟨k₁, e1, h0.trans e2⟩⟩
  | goto l' =>
    obtain ⟨rfl, hJ'⟩ := q
    obtain ⟨e₂, a₂, w₂, hq₂, harr₂⟩ := key _ tm1 H1 rfl hJ' w₁ g1 a₁ m1 s1 r1 n1 k1
    exact ⟨e₂, a₂, w₂, hq₂, .of_steps (h0.trans (harr.1 _ hg)) harr₂⟩
  | ret => exact ⟨_, a₁, w₁, ⟨tm1, g1, H1, m1, s1, r1, n1, k1, ne, q⟩, .of_steps h0 harr⟩
  | panic ch => exact ⟨_, a₁, w₁, ⟨tm1, g1, H1, m1, s1, r1, n1, k1, ne, q⟩, .of_steps h0 harr⟩
  | outgrown => exact absurd rfl ne

/-! ### A call of yield -/

structure IYield (P : Program) (l : Nat) (args : List IV) (H : IHeap) (K : Bool → IHeap → Prop) : Prop where
  run : ∀ (rr : Option Nat) (w : World) (g : Gs) (vs : Array Value), Sim w g H → RL w g vs args → ∃ f tmps assign body, (Instr.yield l vs).run P w = .ok (.round l f tmps assign body) w ∧
    RoundIn (FR rr) 0 P l f tmps assign body w (fun e w' => ∃ b g' H', e = .returned (.bool b) ∧ Mono w g w' g' ∧ Sim w' g' H' ∧ K b H')

theorem IYield.mono {l : Nat} {args : List IV} {K K' : Bool → IHeap → Prop} (h : IYield P l args H K) (hk : ∀ b H, K b H → K' b H) : IYield P l args H K' :=
  ⟨fun rr w g vs s rl => let ⟨f, t, a, b, h1, h2⟩ := h.run rr w g vs s rl; ⟨f, t, a, b, h1, h2.mono fun e w' ⟨b, g', H', e1, e2, e3, e4⟩ => ⟨b, g', H', e1, e2, e3, hk _ _ e4⟩⟩⟩

abbrev yv (l : Nat) : IV := .v (.func (.yield l) #[] #[])

theorem IOper_yield {o : Oper} {K : IV → IHeap → Prop} {Qp : List PanicEntry → IHeap → Prop} {x : Operand} {args : Array Operand} {ats : Array TypeId} {l : Nat} (ho : o.op = .call { callee := .value x, args := args, argTypes := ats }) (hok : okO N o = true)
    (hx : ev tm x = yv l) (h : IYield P l (args.toList.map (ev tm)) H (fun b H' => K (.v (.bool b)) H')) : IOper P N o tm H K Qp := by
  obtain ⟨dst, op, type, pos, after, guard⟩ := o
  simp only at ho
  subst ho
  refine ⟨by simp, fun rr w g a sm ra hN => ?_⟩
  subst hN
  simp only [okO, Bool.and_eq_true, List.all_eq_true, Op.operands, Call.operands, Array.toList_append, List.mem_append] at hok
  have rx := ra.ev (x := x) (hok.1 x (.inl (by simp)))
  rw [hx] at rx
  have hxe := rx.v_eq
  have rargs := RL_map ra args (fun q hq => hok.1 q (.inr hq))
  obtain ⟨f, t, as, bd, h1, h2⟩ := h.run rr w g _ sm rargs
  have hrun : (execOp a.eval { dst := dst, op := .call { callee := .value x, args := args, argTypes := ats }, type := type, pos := pos, after := after, guard := guard : Oper}).run P w = .ok (.round l f t as bd) w := by
    simp [execOp, resolve, hxe, Deferred.ofValue, invoke, h1]
  rw [hrun]
  refine ⟨fun hd => by simp [FR] at hd, h2.mono ?_⟩
  rintro e w' ⟨b, g', H', rfl, m, s', hq⟩
  exact ⟨.bool b, .v (.bool b), g', H', rfl, m, s', .v _, hq⟩

end Go.Idl

namespace Go.Idl

open Go Go.RowKit

variable {P : Program} {N : Nat} {tm : Tm} {H : IHeap} {Q : Exit → Tm → IHeap → Prop}

theorem CellsR.monoR {w w' : World} {g g' : Gs} (m : MonoR w g w' g') {xs : Array Value} {cs : List IV} (h : CellsR w g xs cs) : CellsR w' g' xs cs :=
  ⟨h.1, fun j c hj => let ⟨x, h1, h2, h3⟩ := h.2 j c hj; ⟨x, h1, h2, h3.monoR m⟩⟩

theorem ObjR.monoR {w w' : World} {g g' : Gs} (m : MonoR w g w' g') {x : Value} {o : HO} (hb : ∀ b, blk x = some b → w'.heap[b]? = w.heap[b]?) (h : ObjR w g x o) : ObjR w' g' x o := by
  induction o with
  | cells cs =>
    obtain ⟨b, xs, el, f, rfl, h2, h3, h4⟩ := h
    exact ⟨b, xs, el, f, rfl, (hb b rfl).trans h2, h3, h4.monoR m⟩
  | row sz es =>
    obtain ⟨a, cap, rfl, h1, h2, h3, h4, h5⟩ := h
    refine ⟨a, cap, rfl, h1, h2, h3, h4, ?_⟩
    rcases h5 with h5 | ⟨b, xs, el, f, rfl, h6, h7, h8, h9⟩
    · exact .inl h5
    · exact .inr ⟨b, xs, el, f, rfl, (hb b rfl).trans h6, h7, h8, h9.monoR m⟩
  | obj o =>
    obtain ⟨b, rfl, h2, h3⟩ := h
    exact ⟨b, rfl, (hb b rfl).trans h2, h3⟩
  | map es =>
    obtain ⟨b, ents, clock, rfl, h2, h3⟩ := h
    exact ⟨b, ents, clock, rfl, (hb b rfl).trans h2, h3.imp fun x e _ hx => hx.monoR m⟩
  | mapB bs c es =>
    obtain ⟨b, ents, rfl, h2, h3, h4⟩ := h
    exact ⟨b, ents, rfl, (hb b rfl).trans h2, h3.imp fun x e _ hx => hx.monoR m, h4⟩
  | it km since seen c =>
    obtain ⟨b, bm, rfl, h2, h3⟩ := h
    exact ⟨b, bm, rfl, (hb b rfl).trans h2, h3.monoR m⟩
  | ty t o ih => exact ⟨ih h.1, h.2.keep hb⟩

def IHeap.skip (H : IHeap) : IHeap := { H with next := H.next + 1 }

def wrapL (l : Nat) (t : Array Value) (tm : Tm) (Hu : IHeap) (r : Loop) : IHeap :=
  { next := Hu.next + 1, obj := fun k => if k = Hu.next then some (.obj (.loop r)) else Hu.obj k, sn := (t, tm) :: (#[.map (some l)], fun _ => .mp Hu.next) :: Hu.sn }

section

variable {l : Nat} {t : Array Value} {Hu : IHeap} {r : Loop} {w : World} {g : Gs}

theorem wrapL_snap (s : Sim w g (wrapL l t tm Hu r)) : (∀ i, i < t.size → R w g (t.getD i undef) (tm i)) ∧ g.mu Hu.next = .map (some l) := by
  refine ⟨s.snap (t, tm) (by simp [wrapL]), ?_⟩
  have h := s.snap (#[.map (some l)], fun _ => .mp Hu.next) (by simp [wrapL]) 0 (by simp)
  simp only at h
  have hsh : g.sh Hu.next = some .fx := by rw [s.sh]; simp [IHeap.sh, wrapL, HO.sh]
  have e : (#[Value.map (some l)] : Array Value).getD 0 undef = .map (some l) := rfl
  rw [e] at h
  cases h with
  | mp _ _ _ _ hh => exact hh .fx hsh rfl

theorem wrapL_heap (s : Sim w g (wrapL l t tm Hu r)) : w.heap[l]? = some (.loop r) := by
  obtain ⟨b, h1, h2, _⟩ := s.obj Hu.next (.obj (.loop r)) (by simp [wrapL])
  rw [(wrapL_snap s).2] at h1
  cases h1
  exact h2

theorem wrapL_sh (s : Sim w g (wrapL l t tm Hu r)) : g.sh Hu.next = some .fx := by rw [s.sh]; simp [IHeap.sh, wrapL, HO.sh]

def hideG (g : Gs) (k l : Nat) : Gs := { oth := fun b => g.oth b ∨ b = l, mu := g.mu, sh := fun i => if i = k then none else g.sh i, nx := g.nx }

theorem hide_monoR (s : Sim w g (wrapL l t tm Hu r)) : MonoR w g w (hideG g Hu.next l) := by
  have hl := (wrapL_snap s).2
  have hsh := wrapL_sh s
  refine ⟨Nat.le_refl _, fun _ _ _ => rfl, ?_, Nat.le_refl _, ?_, ?_⟩
  · rintro b hb ((h | h) | ⟨k, h1, h2⟩)
    · exact .inl h
    · subst h; exact .inr ⟨Hu.next, by rw [hsh]; rfl, by rw [hl]; rfl⟩
    · simp only [hideG] at h1 h2
      split at h1
      · cases h1
      · exact .inr ⟨k, h1, h2⟩
  · intro k hk h
    simp only [hideG] at h
    split at h
    · cases h
    · exact ⟨h, rfl⟩
  · intro k m hk h
    simp only [hideG] at h
    split at h
    · cases h
    · exact ⟨m, h, Nat.le_refl _, fun _ => rfl⟩

theorem hide_sim (s : Sim w g (wrapL l t tm Hu r)) (hw : Hu.obj Hu.next = none) : Sim w (hideG g Hu.next l) Hu.skip := by
  have m := hide_monoR s
  have hl := (wrapL_snap s).2
  have hsh := wrapL_sh s
  have hne : ∀ k, ((hideG g Hu.next l).sh k).isSome = true → k ≠ Hu.next ∧ (g.sh k).isSome = true := by
    intro k h
    simp only [hideG] at h
    split at h
    · cases h
    · rename_i e; exact ⟨e, h⟩
  have hwob : ∀ k o, Hu.obj k = some o → k ≠ Hu.next ∧ (wrapL l t tm Hu r).obj k = some o := by
    intro k o h
    have e : k ≠ Hu.next := fun e => by rw [e, hw] at h; cases h
    exact ⟨e, by simp [wrapL, e, h]⟩
  refine ⟨s.nx, fun k => ?_, fun k h => ?_, fun k b h1 h2 => ?_, fun k k' b h1 h2 h3 h4 => s.inj k k' b (hne k h1).2 (hne k' h2).2 h3 h4, fun k o h => ?_, fun b h => ?_, fun p hp i hi => (s.snap p (by simp [wrapL]; exact .inr (.inr hp)) i hi).monoR m⟩
  · simp only [hideG]
    by_cases e : k = Hu.next
    · rw [if_pos e, e]
      simp [IHeap.sh, IHeap.skip, hw]
    · rw [if_neg e, s.sh]
      simp [IHeap.sh, IHeap.skip, wrapL, e]
  · obtain ⟨o, ho⟩ := Option.isSome_iff_exists.1 h
    exact s.lt k (by rw [(hwob k o ho).2]; rfl)
  · obtain ⟨e, h3⟩ := hne k h1
    have h4 := s.bk k b h3 h2
    refine ⟨?_, h4.2⟩
    rintro (h | h)
    · exact h4.1 h
    · subst h
      exact e (s.inj k Hu.next b h3 (by rw [hsh]; rfl) h2 (by rw [hl]; rfl))
  · exact (s.obj k o (hwob k o h).2).monoR m fun _ _ => rfl
  · rcases h with h | h
    · exact s.old b h
    · subst h; exact heap_lt (wrapL_heap s)

def showG (g : Gs) (oth : Nat → Prop) (l : Nat) : Gs := { oth := oth, mu := fun i => if i = g.nx then .map (some l) else g.mu i, sh := fun i => if i = g.nx then some .fx else g.sh i, nx := g.nx + 1 }

theorem show_monoR {oth : Nat → Prop} (ho : ∀ b, g.oth b ↔ oth b ∨ b = l) : MonoR w g w (showG g oth l) := by
  refine ⟨Nat.le_refl _, fun _ _ _ => rfl, ?_, Nat.le_succ _, ?_, ?_⟩
  · rintro b hb (h | ⟨k, h1, h2⟩)
    · exact .inl ((ho b).2 (.inl h))
    · simp only [showG] at h1 h2
      split at h1
      · rename_i e
        rw [if_pos e] at h2
        simp only [blk, Option.some.injEq] at h2
        exact .inl ((ho b).2 (.inr h2.symm))
      · rename_i e
        rw [if_neg e] at h2
        exact .inr ⟨k, h1, h2⟩
  · intro k hk h
    simp only [showG] at h ⊢
    have e : ¬ k = g.nx := by omega
    rw [if_neg e] at h ⊢
    exact ⟨h, rfl⟩
  · intro k m hk h
    simp only [showG] at h ⊢
    have e : ¬ k = g.nx := by omega
    rw [if_neg e] at h ⊢
    exact ⟨m, h, Nat.le_refl _, fun _ => rfl⟩

theorem show_sim {oth : Nat → Prop} (ho : ∀ b, g.oth b ↔ oth b ∨ b = l) (hol : ¬ oth l) (s : Sim w g Hu) (hh : w.heap[l]? = some (.loop r)) (ht : ∀ i, i < t.size → R w g (t.getD i undef) (tm i)) : Sim w (showG g oth l) (wrapL l t tm Hu r) := by
  have m : MonoR w g w (showG g oth l) := show_monoR ho
  have hne : ∀ k, ((showG g oth l).sh k).isSome = true → k = g.nx ∨ (k ≠ g.nx ∧ (g.sh k).isSome = true) := by
    intro k h
    simp only [showG] at h
    split at h
    · rename_i e; exact .inl e
    · rename_i e; exact .inr ⟨e, h⟩
  have hnl : ∀ k, (g.sh k).isSome = true → blk (g.mu k) ≠ some l := fun k h e => (s.bk k l h e).1 ((ho l).2 (.inr rfl))
  refine ⟨by show g.nx + 1 = _; rw [s.nx]; rfl, fun k => ?_, fun k h => ?_, fun k b h1 h2 => ?_, fun k k' b h1 h2 h3 h4 => ?_, fun k o h => ?_, fun b h => s.old b ((ho b).2 (.inl h)), fun p hp i hi => ?_⟩
  · simp only [showG, IHeap.sh, wrapL, s.nx]
    by_cases e : k = Hu.next
    · simp [e, HO.sh]
    · rw [if_neg e, if_neg e]; exact s.sh k
  · simp only [wrapL] at h ⊢
    split at h
    · rename_i e; omega
    · exact Nat.lt_succ_of_lt (s.lt k h)
  · rcases hne k h1 with e | ⟨e, h3⟩
    · simp only [showG, if_pos e, blk, Option.some.injEq] at h2 ⊢
      subst h2
      exact ⟨hol, heap_lt hh⟩
    · simp only [showG, if_neg e] at h2 ⊢
      have h4 := s.bk k b h3 h2
      exact ⟨fun e => h4.1 ((ho b).2 (.inl e)), h4.2⟩
  · rcases hne k h1 with e | ⟨e, h5⟩ <;> rcases hne k' h2 with e' | ⟨e', h5'⟩
    · rw [e, e']
    · simp only [showG, if_pos e, if_neg e', blk, Option.some.injEq] at h3 h4
      subst h3
      exact absurd h4 (hnl k' h5')
    · simp only [showG, if_neg e, if_pos e', blk, Option.some.injEq] at h3 h4
      subst h4
      exact absurd h3 (hnl k h5)
    · simp only [showG, if_neg e, if_neg e'] at h3 h4
      exact s.inj k k' b h5 h5' h3 h4
  · simp only [wrapL] at h
    split at h
    · rename_i e
      cases h
      have e' : k = g.nx := by rw [s.nx]; exact e
      refine ⟨l, by simp [showG, e'], hh, by simp⟩
    · rename_i e
      have e' : ¬ k = g.nx := by rw [s.nx]; exact e
      have : (showG g oth l).mu k = g.mu k := by simp [showG, e']
      rw [this]
      exact (s.obj k o h).monoR m fun _ _ => rfl
  · simp only [wrapL, List.mem_cons] at hp
    rcases hp with rfl | rfl | hp
    · exact (ht i hi).monoR m
    · have e : i = 0 := by simpa using hi
      subst e
      refine .mp _ _ (by rw [← s.nx]; exact Nat.lt_succ_self _) ⟨l, rfl⟩ fun s' hs' e' => ?_
      simp [showG, s.nx]
    · exact (s.snap p hp i hi).monoR m

end

/-! ### The parameters of a round -/

def setPs (tm : Tm) : List Nat → List IV → Tm
  | p :: ps, x :: xs => setPs (upd tm p x) ps xs
  | _, _ => tm

theorem setPs_RA {w : World} {g : Gs} : ∀ (ps : List Nat) (vs : List Value) (is : List IV) (t : Array Value) (tm : Tm), (∀ i, i < t.size → R w g (t.getD i undef) (tm i)) → vs.length = is.length → ps.length = is.length → (∀ (j : Nat) (x : Value) (c : IV), vs[j]? = some x → is[j]? = some c → R w g x c) →
    let t' := (ps.zip vs).foldl (fun t (p : Nat × Value) => t.setIfInBounds p.1 p.2) t
    t'.size = t.size ∧ ∀ i, i < t'.size → R w g (t'.getD i undef) (setPs tm ps is i)
  | [], vs, is, t, tm, h, _, _, _ => by
    simp only [List.zip_nil_left, List.foldl_nil, setPs]
    exact ⟨trivial, h⟩
  | p :: ps, v :: vs, i :: is, t, tm, h, h1, h2, h3 => by
    simp only [List.zip_cons_cons, List.foldl_cons, setPs]
    have hr := h3 0 v i rfl rfl
    have h' : ∀ j, j < (t.setIfInBounds p v).size → R w g ((t.setIfInBounds p v).getD j undef) (upd tm p i j) := by
      intro j hj
      have hj' : j < t.size := by simpa using hj
      unfold upd
      by_cases e : j = p
      · subst e
        have e1 : (t.setIfInBounds j v).getD j undef = v := by simp [hj']
        rw [e1]
        simpa using hr
      · have e1 : (t.setIfInBounds p v).getD j undef = t.getD j undef := by
          simp only [Array.getD_eq_getD_getElem?, Array.getElem?_setIfInBounds_ne (Ne.symm e)]
        rw [e1]
        simpa [e] using h j hj'
    have := setPs_RA ps vs is _ _ h' (by simpa using h1) (by simpa using h2) (fun j x c e1 e2 => h3 (j + 1) x c (by simpa using e1) (by simpa using e2))
    exact ⟨by rw [this.1]; simp, this.2⟩
  | p :: ps, [], i :: is, _, _, _, h1, _, _ => by simp at h1
  | p :: ps, _, [], _, _, _, _, h2, _ => by simp at h2

end Go.Idl

namespace Go.Idl

open Go Go.RowKit

variable {P : Program} {N : Nat} {tm : Tm} {H : IHeap} {Q : Exit → Tm → IHeap → Prop}

theorem MonoR.trans {w w1 w2 : World} {g g1 g2 : Gs} (h : MonoR w g w1 g1) (k : MonoR w1 g1 w2 g2) : MonoR w g w2 g2 where
  size := Nat.le_trans h.size k.size
  keep := fun b hb hn => (k.keep b (Nat.lt_of_lt_of_le hb h.size) fun e => hn (h.own b hb e)).trans (h.keep b hb hn)
  own := fun b hb e => h.own b hb (k.own b (Nat.lt_of_lt_of_le hb h.size) e)
  nx := Nat.le_trans h.nx k.nx
  fx := fun i hi e => by
    obtain ⟨e1, e2⟩ := k.fx i (Nat.lt_of_lt_of_le hi h.nx) e
    obtain ⟨e3, e4⟩ := h.fx i hi e1
    exact ⟨e3, e2.trans e4⟩
  row := fun i m' hi e => by
    obtain ⟨m1, e1, l1, q1⟩ := k.row i m' (Nat.lt_of_lt_of_le hi h.nx) e
    obtain ⟨m, e2, l2, q2⟩ := h.row i m1 hi e1
    exact ⟨m, e2, Nat.le_trans l2 l1, fun e => (q1 (by omega)).trans (q2 (by omega))⟩

theorem put_monoR {w : World} {g : Gs} {l : Nat} {o : Obj} (h : g.oth l) : MonoR w g (w.putObj l o) g :=
  ⟨by simp, fun b _ hn => World.putObj_heap_other fun e => hn (by subst e; exact .inl h), fun _ _ e => e, Nat.le_refl _, fun _ _ e => ⟨e, rfl⟩, fun _ m _ e => ⟨m, e, Nat.le_refl _, fun _ => rfl⟩⟩

theorem put_agr {w : World} {g : Gs} {l : Nat} {r : Loop} {o : Obj} (hh : w.heap[l]? = some (.loop r)) (hn : ¬ g.named l) : Agr w (w.putObj l o) g :=
  ⟨by simp, rfl, rfl, rfl, fun b xs el f hb => World.putObj_heap_other fun e => (by subst e; rw [hh] at hb; cases hb), fun b hb => World.putObj_heap_other fun e => (by subst e; exact hn hb)⟩

theorem put_marksL {w : World} {g : Gs} {rr : Option Nat} {B l : Nat} {r r' : Loop} (hh : w.heap[l]? = some (.loop r)) : ∀ (ds : List Deferred), MarksL rr B w g ds → MarksL rr B (w.putObj l (.loop r')) g ds
  | [], h => fun q hq => by
    obtain ⟨⟨rec, h1⟩, h2⟩ := h q hq
    by_cases e : q = l
    · subst e; exact ⟨⟨r', World.putObj_heap_same (heap_lt hh)⟩, h2⟩
    · exact ⟨⟨rec, (World.putObj_heap_other e).trans h1⟩, h2⟩
  | d :: ds, ⟨⟨q, q1, q2, q3, q4, q5, q6⟩, h⟩ =>
    ⟨⟨q, q1, q2, by simpa using q3, (World.putObj_heap_other fun e => by subst e; rw [hh] at q4; cases q4).trans q4, q5, q6⟩, put_marksL hh ds h⟩

theorem put_marks {w : World} {g : Gs} {rr : Option Nat} {B l : Nat} {D : List Deferred} {r r' : Loop} (hh : w.heap[l]? = some (.loop r)) (ds : List Deferred) : Marks rr B D w g ds → Marks rr B D (w.putObj l (.loop r')) g ds := fun ⟨ms, h1, h2⟩ => ⟨ms, h1, put_marksL hh ms h2⟩

def roundQ (K : IHeap → Prop) (J : Exit → IHeap → Prop) : Exit → Tm → IHeap → Prop
  | .normal, _, H => K H
  | .ret, _, H => J .ret H
  | .exit id, _, H => J (.exit id) H
  | .goto t, _, H => J (.goto t) H
  | .panic _, _, _ => False
  | .outgrown, _, _ => False

def noQ : Exit → Tm → IHeap → Prop := fun _ _ _ => False

def jumpC : Exit → Option Code
  | .ret => some .ret
  | .exit id => some (.exit id)
  | .goto t => some (.goto t)
  | _ => none

theorem round_yield {l d : Nat} {t : Array Value} {Hu : IHeap} {r : Loop} {args : List IV} {fn : FuncId} {ps : Array Tmp} {assign body : Code} {K : IHeap → Prop} {J : Exit → IHeap → Prop}
    (hr : r = { state := .ready, pending := none, fn := fn, tmps := t, params := ps, assign := assign, body := body, defers := d }) (htN : t.size = N) (hps : args.length = ps.size) (hw : Hu.obj Hu.next = none)
    (hb : IWp P N assign (thenQ (fun tm' H' => IWp P N body (roundQ K J) tm' H') noQ) (setPs tm ps.toList args) Hu.skip) :
    IYield P l args (wrapL l t tm Hu r) (fun b H' => (b = true ∧ ∃ Hu', H' = wrapL l t tm Hu' r ∧ Hu'.Wf ∧ K Hu') ∨
      (b = false ∧ ∃ Hu' e c, jumpC e = some c ∧ H' = wrapL l t tm Hu' { r with state := .done, pending := some c } ∧ Hu'.Wf ∧ J e Hu')) := by
  refine ⟨fun rr w g vs s rl => ?_⟩
  obtain ⟨ht, hmu⟩ := wrapL_snap s
  have hh := wrapL_heap s
  have hsh := wrapL_sh s
  have hlt := heap_lt hh
  have hol : ¬ g.oth l := (s.bk Hu.next l (by rw [hsh]; rfl) (by rw [hmu]; rfl)).1
  have sb := hide_sim s hw
  have mb := hide_monoR s
  have hvs : vs.size = r.params.size := by rw [rl.1, hps, hr]
  refine ⟨_, _, _, _, run_yield hh hvs, ?_⟩
  have hfold : (r.params.zip vs).foldl (fun (tmps : Array Value) (x : Tmp × Value) => match x with | (t, a) => tmps.setIfInBounds t a) r.tmps = (ps.toList.zip vs.toList).foldl (fun t (p : Nat × Value) => t.setIfInBounds p.1 p.2) t := by
    rw [← Array.foldl_toList, Array.toList_zip, hr]
  have hra := setPs_RA (w := w) (g := hideG g Hu.next l) ps.toList vs.toList args t tm (fun i hi => (ht i hi).monoR mb) (by rw [Array.length_toList]; exact rl.1) (by rw [Array.length_toList]; exact hps.symm)
    (fun j x c h1 h2 => (rl.2 j x c (by simpa using h1) h2).monoR mb)
  rw [← hfold] at hra
  obtain ⟨hsz, hra⟩ := hra
  have hRR : RRok (some l) w (hideG g Hu.next l) := fun q hq => by cases hq; exact ⟨⟨r, hh⟩, .inr rfl⟩
  have e1 : r.fn = fn := by rw [hr]
  have e2 : r.assign = assign := by rw [hr]
  have e3 : r.body = body := by rw [hr]
  refine roundIn_of_wpIn (F := FR rr) (n := 0) trivial ?_
  rw [← e2, ← e3] at hb
  refine wpIn_mono (hb.run (some l) w.heap.size [] w (hideG g Hu.next l) { tmps := _, defers := [] } sb hra (by rw [hsz]; exact htN) (Nat.le_refl _) ⟨[], rfl, hRR⟩) ?_
  rintro e a1 w1 ⟨tm1, g1, H1, m1, s1, r1, n1, k1, ne, q⟩
  cases e with
  | normal =>
    have o1 : g1.oth l := by rw [m1.oth]; exact .inr rfl
    have hh1 : w1.heap[l]? = some (.loop r) := (m1.keep l hlt fun _ => .inr rfl).trans hh
    have nn1 : ¬ g1.named l := fun ⟨k, h1, h2⟩ => (s1.bk k l h1 h2).1 o1
    refine ⟨_, run_beginRound hh1 (by rw [hr]), ?_⟩
    have ag := put_agr (o := .loop { r with state := .busy }) hh1 nn1
    refine wpIn_mono (q.run (some l) w.heap.size [] _ g1 a1 (s1.agr ag) (fun i hi => (r1 i hi).agr ag) n1 (by rw [ag.size]; exact m1.size) (put_marks hh1 _ k1)) ?_
    rintro e a3 w3 ⟨tm3, g3, H3, m3, s3, r3, n3, k3, ne3, q3⟩
    have o3 : g3.oth l := by rw [m3.oth]; exact o1
    have hlt2 : l < (w1.putObj l (.loop { r with state := .busy })).heap.size := by rw [ag.size]; exact heap_lt hh1
    have hh3 : w3.heap[l]? = some (.loop { r with state := .busy }) := (m3.keep l hlt2 fun _ => o1).trans (World.putObj_heap_same (heap_lt hh1))
    have nn3 : ¬ g3.named l := fun ⟨k, h1, h2⟩ => (s3.bk k l h1 h2).1 o3
    have hoth : ∀ b, g3.oth b ↔ g.oth b ∨ b = l := fun b => by rw [m3.oth, m1.oth]; exact Iff.rfl
    have fin : ∀ (r' : Loop), ∃ g4, Mono w g (w3.putObj l (.loop r')) g4 ∧ Sim (w3.putObj l (.loop r')) g4 (wrapL l t tm H3 r') := by
      intro r'
      have ag3 := put_agr (o := .loop r') hh3 nn3
      have hR : MonoR w g (w3.putObj l (.loop r')) g3 := mb.trans (m1.toR.trans ((put_monoR o1).trans (m3.toR.trans (put_monoR o3))))
      have hR4 : MonoR w g (w3.putObj l (.loop r')) (showG g3 g.oth l) := hR.trans (show_monoR hoth)
      refine ⟨showG g3 g.oth l, ⟨hR4.size, m3.os.trans m1.os, m3.tape.trans m1.tape, m3.output.trans m1.output, ?_, hR4.own, rfl, hR4.nx, hR4.fx, hR4.row⟩, show_sim hoth hol (s3.agr ag3) (World.putObj_heap_same (heap_lt hh3)) fun i hi => (ht i hi).monoR hR⟩
      intro b hbl hn
      have hne : b ≠ l := by
        intro e
        subst e
        exact hol (hn ⟨Hu.next, by rw [hsh]; rfl, by rw [hmu]; rfl⟩)
      have h1 : (hideG g Hu.next l).named b → (hideG g Hu.next l).oth b := by
        rintro ⟨k, h1, h2⟩
        simp only [hideG] at h1 h2
        split at h1
        · cases h1
        · exact .inl (hn ⟨k, h1, h2⟩)
      have h2 : g1.named b → g1.oth b := fun e => by
        rw [m1.oth]
        rcases m1.own b hbl (.inr e) with e | e
        · exact e
        · exact h1 e
      rw [World.putObj_heap_other hne, m3.keep b (by rw [ag.size]; exact Nat.lt_of_lt_of_le hbl m1.size) h2, World.putObj_heap_other hne, m1.keep b hbl h1]
    have hend : ∀ (jump : Option Code), (Instr.endRound l jump).run P w3 = .ok (.bool jump.isNone) (w3.putObj l (.loop { r with state := if jump.isNone then .ready else .done, pending := jump })) := fun jump => run_endRound (r := { r with state := .busy }) jump hh3
    cases e with
    | normal =>
      obtain ⟨g4, m4, s4⟩ := fin r
      have e : ({ r with state := .ready, pending := none } : Loop) = r := by rw [hr]
      refine ⟨.bool true, w3.putObj l (.loop r), ?_, true, g4, _, rfl, m4, s4, .inl ⟨rfl, H3, rfl, s3.wf, q3⟩⟩
      have := hend none
      simp only [Option.isNone_none, if_true] at this
      rw [this, e]
    | ret =>
      obtain ⟨g4, m4, s4⟩ := fin { r with state := .done, pending := some .ret }
      exact ⟨.bool false, _, hend (some .ret), false, g4, _, rfl, m4, s4, .inr ⟨rfl, H3, .ret, .ret, rfl, rfl, s3.wf, q3⟩⟩
    | exit id =>
      obtain ⟨g4, m4, s4⟩ := fin { r with state := .done, pending := some (.exit id) }
      exact ⟨.bool false, _, hend (some (.exit id)), false, g4, _, rfl, m4, s4, .inr ⟨rfl, H3, .exit id, .exit id, rfl, rfl, s3.wf, q3⟩⟩
    | goto id =>
      obtain ⟨g4, m4, s4⟩ := fin { r with state := .done, pending := some (.goto id) }
      exact ⟨.bool false, _, hend (some (.goto id)), false, g4, _, rfl, m4, s4, .inr ⟨rfl, H3, .goto id, .goto id, rfl, rfl, s3.wf, q3⟩⟩
    | panic ch => exact q3
    | outgrown => exact q3
  | outgrown => exact absurd rfl ne
  | exit id => exact q
  | goto id => exact q
  | ret => exact q
  | panic ch => exact q

end Go.Idl

namespace Go.Idl

open Go Go.RowKit

variable {P : Program} {N : Nat} {tm : Tm} {H : IHeap} {Q : Exit → Tm → IHeap → Prop}

def Iter (P : Program) (gf : FuncId) (cap : List IV) (xs : List (List IV)) (C : List (Nat × HO)) : Prop :=
  hasBody P gf = true ∧ ∀ (l : Nat) (I : Nat → IHeap → Prop) (E : IHeap → Prop) (H : IHeap), (∀ i H, I i H → ∀ p, p ∈ C → H.obj p.1 = some p.2) →
    (∀ i args H, xs[i]? = some args → I i H → IYield P l args H (fun b H' => (b = true ∧ I (i + 1) H') ∨ (b = false ∧ E H'))) → I 0 H →
    ICalls P gf (yv l :: cap) H (fun e H' => ∃ r, e = .ret r ∧ (I xs.length H' ∨ E H'))

theorem MarksL.lt {rr : Option Nat} {B : Nat} {w : World} {g : Gs} : ∀ {ds : List Deferred}, MarksL rr B w g ds → ∀ d, d ∈ ds → ∀ r, d.target = .collected r → r < w.heap.size
  | d :: ds, ⟨⟨r, h1, h2, h3, h4, h5, h6⟩, h⟩, d', hd, r', hr => by
    rcases List.mem_cons.1 hd with e | e
    · subst e
      rw [h1] at hr
      cases hr
      exact h3
    · exact h.lt d' e r' hr

theorem enter_loopL {rr : Option Nat} {B : Nat} {w : World} {g : Gs} {ds : List Deferred} (fn : FuncId) (t : Array Value) (ps : Array Tmp) (assign body : Code) (hB : B ≤ w.heap.size) (hm : MarksL rr B w g ds) :
    ∃ l mark w1 d, (Instr.enterLoop fn t ps assign body rr).run P w = .ok (l, mark) w1 ∧ w1.heap[l]? = some (.loop { state := .ready, pending := none, fn := fn, tmps := t, params := ps, assign := assign, body := body, defers := d }) ∧
      w.heap.size ≤ l ∧ w.heap.size ≤ w1.heap.size ∧ w1.os = w.os ∧ w1.tape = w.tape ∧ w1.output = w.output ∧ (∀ b, b < w.heap.size → w1.heap[b]? = w.heap[b]?) ∧
      ∀ g1, Mono w g w1 g1 → (∀ b, w.heap.size ≤ b → b ≠ l → ¬ g1.ow b) → MarksL rr B w1 g1 (mark ++ ds) := by
  cases rr with
  | none =>
    refine ⟨_, _, _, w.heap.size, run_enterLoop_outer fn t ps assign body, ?_, by omega, by simp; omega, rfl, rfl, rfl, fun b hb => ?_, fun g1 m1 ho => ?_⟩
    · have := World.alloc_heap_new (w.alloc (.deferred (some []))) (.loop { state := .ready, pending := none, fn := fn, tmps := t, params := ps, assign := assign, body := body, defers := w.heap.size })
      simpa using this
    · rw [alloc_get, alloc_get]
      simp only [World.size_alloc]
      rw [if_neg (by omega), if_neg (by omega)]
    · refine ⟨⟨w.heap.size, rfl, hB, by simp; omega, ?_, ho _ (Nat.le_refl _) (by omega), fun d' hd e => ?_⟩, hm.mono m1⟩
      · rw [alloc_get, alloc_get]
        simp only [World.size_alloc]
        rw [if_neg (by omega)]
        simp
      · exact absurd (hm.lt d' hd _ e) (by omega)
  | some r =>
    have hRR : RRok (some r) w g := by
      have : ∀ ds : List Deferred, MarksL (some r) B w g ds → RRok (some r) w g := by
        intro ds
        induction ds with
        | nil => exact id
        | cons d ds ih => exact fun h => ih h.2
      exact this ds hm
    obtain ⟨⟨rec, h1⟩, _⟩ := hRR r rfl
    refine ⟨w.heap.size, [], _, rec.defers, ?_, World.alloc_heap_new w _, Nat.le_refl _, by simp, rfl, rfl, rfl, fun b hb => ?_, fun g1 m1 _ => hm.mono m1⟩
    · unfold Instr.enterLoop
      simp only [Sem.run_bind, run_getLoop h1, run_newObj_alloc, Result.andThen, Sem.run_pure]
    · rw [alloc_get, if_neg (by omega)]

theorem enter_loop {rr : Option Nat} {B : Nat} {D : List Deferred} {w : World} {g : Gs} {ds : List Deferred} (fn : FuncId) (t : Array Value) (ps : Array Tmp) (assign body : Code) (hB : B ≤ w.heap.size) (hm : Marks rr B D w g ds) :
    ∃ l mark w1 d, (Instr.enterLoop fn t ps assign body rr).run P w = .ok (l, mark) w1 ∧ w1.heap[l]? = some (.loop { state := .ready, pending := none, fn := fn, tmps := t, params := ps, assign := assign, body := body, defers := d }) ∧
      w.heap.size ≤ l ∧ w.heap.size ≤ w1.heap.size ∧ w1.os = w.os ∧ w1.tape = w.tape ∧ w1.output = w.output ∧ (∀ b, b < w.heap.size → w1.heap[b]? = w.heap[b]?) ∧
      ∀ g1, Mono w g w1 g1 → (∀ b, w.heap.size ≤ b → b ≠ l → ¬ g1.ow b) → Marks rr B D w1 g1 (mark ++ ds) := by
  obtain ⟨ms, rfl, h2⟩ := hm
  obtain ⟨l, mark, w1, d, q1, q2, q3, q4, q5, q6, q7, q8, q9⟩ := enter_loopL (P := P) fn t ps assign body hB h2
  exact ⟨l, mark, w1, d, q1, q2, q3, q4, q5, q6, q7, q8, fun g1 m1 ho => ⟨mark ++ ms, by rw [List.append_assoc], q9 g1 m1 ho⟩⟩

theorem IWp_rangeFunc {gop : Operand} {ps : Array Tmp} {assign body : Code} {gf : FuncId} {cap : List IV} {xs : List (List IV)} {C : List (Nat × HO)} (hgN : opd N gop = true) (hg : fnP (ev tm gop) = some (gf, cap)) (hit : Iter P gf cap xs C)
    (I : Nat → IHeap → Prop) (h0 : I 0 H) (hC : ∀ i Hu, I i Hu → ∀ p, p ∈ C → Hu.obj p.1 = some p.2) (hps : ∀ args, args ∈ xs → args.length = ps.size)
    (hr : ∀ i args Hu, xs[i]? = some args → I i Hu → IWp P N assign (thenQ (fun tm' H' => IWp P N body (roundQ (I (i + 1)) (fun e H' => Q e tm H'.skip)) tm' H') noQ) (setPs tm ps.toList args) Hu.skip)
    (hend : ∀ Hu, I xs.length Hu → Q .normal tm Hu.skip) : IWp P N (.rangeFunc gop ps assign body) Q tm H := by
  refine ⟨fun rr B D w g a s ra hN hB hm => ?_⟩
  refine wpIn_rangeFunc fun fn hfn => ?_
  obtain ⟨l, mark, w1, d, he, hh1, hl, hsz, hos, htp, hou, hsame, hmk⟩ := enter_loop (P := P) fn a.tmps ps assign body hB hm
  have hlt := heap_lt hh1
  -- the record is named
  have hn := s.new (w' := w1) (.map (some l)) (.obj (.loop { state := .ready, pending := none, fn := fn, tmps := a.tmps, params := ps, assign := assign, body := body, defers := d })) hsz hos htp hou hsame
    (fun b hb => by simp only [blk, Option.some.injEq] at hb; subst hb; exact ⟨hlt, hl⟩) (fun g' m _ => ⟨l, rfl, hh1, by simp⟩)
  generalize hg1 : g.put H.next (.map (some l)) (HO.obj (.loop { state := .ready, pending := none, fn := fn, tmps := a.tmps, params := ps, assign := assign, body := body, defers := d })).sh (H.next + 1) = g1 at hn
  generalize hr0 : ({ state := .ready, pending := none, fn := fn, tmps := a.tmps, params := ps, assign := assign, body := body, defers := d } : Loop) = r0 at *
  obtain ⟨s1, m1⟩ := hn
  have hmu : g1.mu H.next = .map (some l) := by rw [← hg1]; simp [Gs.put]
  have ra1 := ra.mono m1
  have s1' : Sim w1 g1 (wrapL l a.tmps tm H r0) := by
    refine ⟨s1.nx, s1.sh, s1.lt, s1.bk, s1.inj, s1.obj, s1.old, fun p hp i hi => ?_⟩
    simp only [wrapL, List.mem_cons] at hp
    rcases hp with rfl | rfl | hp
    · exact ra1 i hi
    · have e : i = 0 := by simpa using hi
      subst e
      refine .mp _ _ (by rw [s1.nx]; exact Nat.lt_succ_self _) ⟨l, rfl⟩ fun _ _ _ => hmu
    · exact s1.snap p hp i hi
  have how : ∀ b, w.heap.size ≤ b → b ≠ l → ¬ g1.ow b := by
    rintro b hb hne (h | ⟨k, h1, h2⟩)
    · rw [m1.oth] at h
      have := s.old b h
      omega
    · rw [← hg1] at h1 h2
      simp only [Gs.put] at h1 h2
      by_cases e : k = H.next
      · rw [if_pos e] at h2
        simp only [blk, Option.some.injEq] at h2
        exact hne h2.symm
      · rw [if_neg e] at h1 h2
        have := (s.bk k b h1 h2).2
        omega
  have hmk1 := hmk g1 m1 how
  -- what is ranged over
  have rx := ra1.ev (x := gop) (by rw [hN]; exact hgN)
  have ⟨ys, hxe, hcap⟩ : ∃ ys : Array Value, a.eval gop = .func (.func gf) #[] ys ∧ RL w1 g1 ys cap := by
    unfold fnP at hg
    split at hg
    · rename_i f' first cap' hx
      split at hg
      · rename_i hs
        simp only [Option.some.injEq, Prod.mk.injEq] at hg
        obtain ⟨rfl, rfl⟩ := hg
        rw [hx] at rx
        have e1 : first = #[] := Array.eq_empty_of_size_eq_zero hs.1
        have e2 : cap' = #[] := Array.eq_empty_of_size_eq_zero hs.2
        exact ⟨#[], by rw [rx.v_eq, e1, e2], rfl, by simp⟩
      · cases hg
    · rename_i f' cap' hx
      simp only [Option.some.injEq, Prod.mk.injEq] at hg
      obtain ⟨rfl, rfl⟩ := hg
      rw [hx] at rx
      generalize a.eval gop = z at rx
      cases rx with
      | fn _ xs ys _ _ hl hl' hr hr' =>
        have e1 : xs = #[] := Array.eq_empty_of_size_eq_zero (by simpa using hl)
        exact ⟨ys, by rw [e1], hl', hr'⟩
    · cases hg
  have hres : (resolve a.eval (rangeCall gop l) 0).run P w1 = .ok (Deferred.mk (.fn (.func gf) ys) #[.func (.yield l) #[] #[]]) w1 := by
    simp [resolve, hxe, Deferred.ofValue]
    rfl
  refine ⟨l, mark, w1, _, w1, gf, #[.func (.yield l) #[] #[]] ++ ys, w1, he, hres, fun _ _ => trivial, ?_, fun hd => by simp [FR] at hd, ?_⟩
  · simp [invoke, run_callFunc hit.1]
  have hcall := hit.2 l (fun i H' => ∃ Hu, H' = wrapL l a.tmps tm Hu r0 ∧ Hu.Wf ∧ I i Hu)
    (fun H' => ∃ Hu e c, jumpC e = some c ∧ H' = wrapL l a.tmps tm Hu { r0 with state := .done, pending := some c } ∧ Hu.Wf ∧ Q e tm Hu.skip) (wrapL l a.tmps tm H r0) ?_ ?_ ⟨H, rfl, s.wf, h0⟩
  · refine callsFR ((hcall.run w1 g1 _ s1' (RL_append (xs := #[.func (.yield l) #[] #[]]) (is := [yv l]) ⟨rfl, fun j x c h1 h2 => ?_⟩ hcap)).mono ?_)
    · cases j with
      | zero => simp at h1 h2; subst h1; subst h2; exact .v _
      | succ j => simp at h2
    rintro e w2 ⟨ie, g2, H2, m2, s2, hre, r, rfl, hI⟩
    -- behind the loop
    have fin : ∀ (Hu : IHeap) (r2 : Loop), H2 = wrapL l a.tmps tm Hu r2 → Hu.Wf → ∃ g5, ∀ r', Mono w g (w2.putObj l (.loop r')) g5 ∧ Sim (w2.putObj l (.loop r')) g5 Hu.skip ∧ RA (w2.putObj l (.loop r')) g5 a tm ∧ Marks rr B D (w2.putObj l (.loop r')) g5 (mark ++ a.defers) := by
      rintro Hu r2 rfl hw
      have hh2 := wrapL_heap s2
      have hEnd : EndH (wrapL l a.tmps tm Hu r2) (wrapL l a.tmps tm Hu r2) { Hu.skip with sn := (wrapL l a.tmps tm Hu r2).sn } := by
        have hne : ∀ k o, Hu.obj k = some o → k ≠ Hu.next := fun k o h e => by rw [e, hw _ (Nat.le_refl _)] at h; cases h
        refine ⟨Nat.le_refl _, Nat.le_refl _, fun k o h => ?_, fun k o h => ?_, .inl rfl, rfl⟩
        · have := hne k o h
          simp only [wrapL, if_neg this]
          exact h
        · rcases Nat.lt_or_ge k Hu.next with e | e
          · exact Nat.lt_succ_of_lt e
          · have h' : Hu.obj k = some o := h
            rw [hw k e] at h'; cases h'
      obtain ⟨s3, m3⟩ := hEnd.sim s2 (.refl w2 g2) s2
      have hno : ¬ (g2.to { Hu.skip with sn := (wrapL l a.tmps tm Hu r2).sn }).ow l := s2.free_of_to hEnd.sub (k := Hu.next) (by exact hw _ (Nat.le_refl _)) (by rw [wrapL_sh s2]; rfl) (by rw [(wrapL_snap s2).2]; rfl)
      generalize g2.to { Hu.skip with sn := (wrapL l a.tmps tm Hu r2).sn } = g5 at s3 m3 hno
      refine ⟨g5, fun r' => ?_⟩
      have ag := put_agr (o := .loop r') hh2 (fun e => hno (.inr e))
      have s3' : Sim w2 g5 Hu.skip := ⟨s3.nx, s3.sh, s3.lt, s3.bk, s3.inj, s3.obj, s3.old, fun p hp i hi => s3.snap p (by simp only [wrapL, List.mem_cons]; exact .inr (.inr hp)) i hi⟩
      have mm := m1.trans (m2.trans m3)
      refine ⟨⟨by rw [ag.size]; exact mm.size, mm.os, mm.tape, mm.output, fun b hb hn => ?_, mm.own, mm.oth, mm.nx, mm.fx, mm.row⟩, s3'.agr ag, fun i hi => ((ra i hi).mono mm).agr ag, put_marks hh2 _ ((hmk1.mono m2).mono m3)⟩
      rw [World.putObj_heap_other (by omega)]
      exact mm.keep b hb hn
    cases hre with
    | ret v i hv =>
      rcases hI with ⟨Hu, hH, hw, hI⟩ | ⟨Hu, e, c, hc, hH, hw, hQ⟩
      · obtain ⟨g5, hf⟩ := fin Hu _ hH hw
        subst hH
        refine ⟨none, w2.putObj l (.loop { r0 with state := .exhausted }), ?_, ?_⟩
        · have := run_endLoop (P := P) (wrapL_heap s2) (by rw [← hr0]; simp)
          have hp : r0.pending = none := by rw [← hr0]
          rw [this, hp]
        · obtain ⟨h1, h2, h3, h4⟩ := hf { r0 with state := .exhausted }
          exact ⟨tm, g5, Hu.skip, h1, h2, h3, hN, h4, by simp, hend Hu hI⟩
      · obtain ⟨g5, hf⟩ := fin Hu _ hH hw
        subst hH
        refine ⟨some c, _, run_endLoop (P := P) (wrapL_heap s2) (by simp), ?_⟩
        obtain ⟨h1, h2, h3, h4⟩ := hf { r0 with state := .exhausted, pending := some c }
        have hpost : ∀ e', e' = e → e' ≠ .outgrown → Post rr B D N Q w g e' { a with defers := mark ++ a.defers } (w2.putObj l (.loop { r0 with state := .exhausted, pending := some c })) := fun e' he hne => ⟨tm, g5, Hu.skip, h1, h2, h3, hN, h4, hne, by rw [he]; exact hQ⟩
        cases e with
        | ret => simp only [jumpC, Option.some.injEq] at hc; subst hc; exact wpIn_ret (hpost _ rfl (by simp))
        | exit id => simp only [jumpC, Option.some.injEq] at hc; subst hc; exact wpIn_exit (hpost _ rfl (by simp))
        | goto id => simp only [jumpC, Option.some.injEq] at hc; subst hc; exact wpIn_goto (hpost _ rfl (by simp))
        | normal => cases hc
        | panic ch => cases hc
        | outgrown => cases hc
  · rintro i H' ⟨Hu, rfl, hw, hI⟩ p hp
    have h1 := hC i Hu hI p hp
    have hne : p.1 ≠ Hu.next := fun e => by rw [e, hw _ (Nat.le_refl _)] at h1; cases h1
    simp only [wrapL, if_neg hne]
    exact h1
  · rintro i args H' hx ⟨Hu, rfl, hw, hI⟩
    refine (round_yield hr0.symm hN (hps args (List.mem_of_getElem? hx)) (hw _ (Nat.le_refl _)) (hr i args Hu hx hI)).mono ?_
    rintro b H' (⟨rfl, Hu', h1, h2, h3⟩ | ⟨rfl, Hu', e, c, h1, h2, h3, h4⟩)
    · exact .inl ⟨rfl, Hu', h1, h2, h3⟩
    · exact .inr ⟨rfl, Hu', e, c, h1, h2, h3, h4⟩

theorem IOper_yield' {o : Oper} {K : IV → IHeap → Prop} {Qp : List PanicEntry → IHeap → Prop} {x : Operand} {args : Array Operand} {ats : Array TypeId} {l : Nat} {is : List IV} (ho : o.op = .call { callee := .value x, args := args, argTypes := ats }) (hok : okO N o = true)
    (hx : ev tm x = yv l) (ha : args.toList.map (ev tm) = is) (h : IYield P l is H (fun b H' => K (.v (.bool b)) H')) : IOper P N o tm H K Qp := by
  subst ha
  exact IOper_yield ho hok hx h

theorem Wk.refl (i : IV) : Wk i i := fun _ _ _ h => h

theorem Wk.nil (sz : Nat) : Wk (.v (.slice none 0 0)) (.sl sz []) := fun _ _ x h => by rw [h.v_eq]; exact .sl0 _ _ _

theorem Fz.same {H J : IHeap} {i : IV} (h : NB J.next i) : Fz H J i i := .wk i i (.refl i) h

/-! ### Names -/

section

variable {n : Nat}

theorem NB_v {x : Value} : NB n (.v x) ↔ True := ⟨fun _ => trivial, fun _ => .v x⟩

theorem NB_sl {sz : Nat} {es : List (List IV)} : NB n (.sl sz es) ↔ ∀ e, e ∈ es → ∀ c, c ∈ e → NB n c := ⟨fun h => by cases h with | sl _ _ h => exact h, .sl _ _⟩

theorem NB_ag {cs : List IV} : NB n (.ag cs) ↔ ∀ c, c ∈ cs → NB n c := ⟨fun h => by cases h with | ag _ h => exact h, .ag _⟩

theorem NB_tu {cs : List IV} : NB n (.tu cs) ↔ ∀ c, c ∈ cs → NB n c := ⟨fun h => by cases h with | tu _ h => exact h, .tu _⟩

theorem NB_fn {f : Fn} {a b : List IV} : NB n (.fn f a b) ↔ (∀ c, c ∈ a → NB n c) ∧ ∀ c, c ∈ b → NB n c := ⟨fun h => by cases h with | fn _ _ _ h h' => exact ⟨h, h'⟩, fun ⟨h, h'⟩ => .fn _ _ _ h h'⟩

theorem NB_p {k off : Nat} : NB n (.p k off) ↔ k < n := ⟨fun h => by cases h with | p _ _ h => exact h, .p _ _⟩

theorem NB_os {k m : Nat} : NB n (.os k m) ↔ k < n := ⟨fun h => by cases h with | os _ _ h => exact h, .os _ _⟩

theorem NB_bs {k off m : Nat} : NB n (.bs k off m) ↔ k < n := ⟨fun h => by cases h with | bs _ _ _ h => exact h, .bs _ _ _⟩

theorem NB_mp {k : Nat} : NB n (.mp k) ↔ k < n := ⟨fun h => by cases h with | mp _ h => exact h, .mp _⟩

end

/-! ### The named memory, told -/

@[go_sem] theorem new_next {H : IHeap} {o : HO} : (H.new o).next = H.next + 1 := rfl

@[go_sem] theorem set_next {H : IHeap} {k : Nat} {o : HO} : (H.set k o).next = H.next := rfl

@[go_sem] theorem del_next {H : IHeap} {k : Nat} : (H.del k).next = H.next := rfl

@[go_sem] theorem skip_next {H : IHeap} : H.skip.next = H.next + 1 := rfl

@[go_sem] theorem new_obj {H : IHeap} {o : HO} {i : Nat} : (H.new o).obj i = if i = H.next then some o else H.obj i := rfl

@[go_sem] theorem set_obj {H : IHeap} {k i : Nat} {o : HO} : (H.set k o).obj i = if i = k then some o else H.obj i := rfl

@[go_sem] theorem del_obj {H : IHeap} {k i : Nat} : (H.del k).obj i = if i = k then none else H.obj i := rfl

@[go_sem] theorem skip_obj {H : IHeap} {i : Nat} : H.skip.obj i = H.obj i := rfl

theorem Ext.skip {H H' : IHeap} (h : Ext H H') : Ext H H'.skip := ⟨h.wf, Nat.le_succ_of_le h.le, h.sub, h.sn⟩

@[go_sem] theorem nx_add2 {n : Nat} : n + 1 + 1 = n + 2 := rfl

@[go_sem] theorem nx_add3 {n : Nat} : n + 2 + 1 = n + 3 := rfl

@[go_sem] theorem nx_add4 {n : Nat} : n + 3 + 1 = n + 4 := rfl

@[go_sem] theorem nx_add5 {n : Nat} : n + 4 + 1 = n + 5 := rfl

@[go_sem] theorem nx_add6 {n : Nat} : n + 5 + 1 = n + 6 := rfl

@[go_sem] theorem nx_add7 {n : Nat} : n + 6 + 1 = n + 7 := rfl

@[go_sem] theorem nx_add8 {n : Nat} : n + 7 + 1 = n + 8 := rfl

@[go_sem] theorem nx_add9 {n : Nat} : n + 8 + 1 = n + 9 := rfl

@[go_sem] theorem nx_add10 {n : Nat} : n + 9 + 1 = n + 10 := rfl

@[go_sem] theorem nx_add11 {n : Nat} : n + 10 + 1 = n + 11 := rfl

@[go_sem] theorem nx_add12 {n : Nat} : n + 11 + 1 = n + 12 := rfl

end Go.Idl

namespace Go.Idl

open Go Go.RowKit

variable {P : Program} {N : Nat} {tm : Tm} {H : IHeap}

theorem IOper_slnil {o : Oper} {K : IV → IHeap → Prop} {Qp : List PanicEntry → IHeap → Prop} {t t' e : TypeId} {x y : Operand} {sz : Nat} {es : List (List IV)} {op : BinOp} (ho : o.op = .binOp op t x y t') (hok : okO N o = true) (hu : P.underlying t = some (.slice e))
    (hx : ev tm x = .sl sz es) (hy : ev tm y = .v (.slice none 0 0)) (hop : op = .eql ∨ op = .neq) (h : ∀ b : Bool, (b = true → es = []) → K (.v (.bool (if op = .eql then b else !b))) H) : IOper P N o tm H K Qp := by
  obtain ⟨dst, op', type, pos, after, guard⟩ := o
  simp only at ho
  subst ho
  refine IOper_of (by simp) fun w g a s r hN => ?_
  subst hN
  simp only [okO, Bool.and_eq_true, List.all_eq_true] at hok
  have rx := r.ev (x := x) (hok.1 x (by simp [Op.operands]))
  have ry := r.ev (x := y) (hok.1 y (by simp [Op.operands]))
  rw [hx] at rx
  rw [hy] at ry
  obtain ⟨ad, cap, hxe, hne⟩ := rx.sl_form
  have hye := ry.v_eq
  have hq : (Op.equal t (.slice ad es.length cap) (.slice none 0 0)).run P w = .ok ad.isNone w := run_equal_of fun d => by
    cases ad <;> simp [Op.equalIn, run_underlying hu]
  have hb : ad.isNone = true → es = [] := by
    intro hb
    apply List.eq_nil_of_length_eq_zero
    rcases Nat.eq_zero_or_pos es.length with e | e
    · exact e
    · obtain ⟨b, off, rfl⟩ := hne e
      simp at hb
  have hg : ∀ op ox oy, (eqGuard op t ox oy (.slice ad es.length cap) (.slice none 0 0)).run P w = .ok () w := fun op _ _ => by unfold eqGuard; split <;> rfl
  refine ⟨.bool (if op = .eql then ad.isNone else !ad.isNone), w, g, H, _, .inl ?_, .refl w g, s, .v _, h _ hb⟩
  rcases hop with rfl | rfl
  · have hb1 : (binOp .eql t (.slice ad es.length cap) (.slice none 0 0)).run P w = .ok (.bool ad.isNone) w := by simp [binOp, hq]
    have := bin_nil (hg .eql) hb1 x y
    simp only [execOp, hxe, hye]
    rw [Sem.run_bind]
    rw [this]
    rfl
  · have hb1 : (binOp .neq t (.slice ad es.length cap) (.slice none 0 0)).run P w = .ok (.bool !ad.isNone) w := by simp [binOp, hq]
    have := bin_nil (hg .neq) hb1 x y
    simp only [execOp, hxe, hye]
    rw [Sem.run_bind]
    rw [this]
    rfl

theorem chunks_one : ∀ (l : List IV), chunks 1 l.length l = l.map fun x => [x]
  | [] => rfl
  | x :: l => by simp [chunks, chunks_one l]

theorem chunks_one' {n : Nat} {l : List IV} (h : l.length = n) : chunks 1 n l = l.map fun x => [x] := by rw [← h]; exact chunks_one l

theorem fz0 {H J : IHeap} : ∀ (j : Nat) (c c' : IV), ([] : List IV)[j]? = some c → ([] : List IV)[j]? = some c' → Fz H J c c' := fun _ _ _ h => by simp at h

theorem fz1 {H J : IHeap} {a b : IV} (h : Fz H J a b) : ∀ (j : Nat) (c c' : IV), [a][j]? = some c → [b][j]? = some c' → Fz H J c c'
  | 0, _, _, h1, h2 => by cases h1; cases h2; exact h
  | j + 1, _, _, h1, _ => by simp at h1

theorem fzs {H J : IHeap} {l : List IV} (h : ∀ c, c ∈ l → NB J.next c) : ∀ (j : Nat) (c c' : IV), l[j]? = some c → l[j]? = some c' → Fz H J c c' := fun j c c' h1 h2 => by
  rw [h1] at h2
  cases h2
  exact .same (h c (List.mem_of_getElem? h1))

theorem Fz.clos1 {H J : IHeap} {f : Fn} {a b : IV} (h : Fz H J a b) : Fz H J (.fn f [] [a]) (.fn f [] [b]) := .fn f [] [] [a] [b] rfl rfl fz0 (fz1 h)

theorem Fz.cp1 {H J : IHeap} {a b : IV} (h : Fz H J a b) : Fz H J (.cp [a]) (.cp [b]) := .cp [a] [b] rfl (fz1 h)

theorem Fz.row {H J : IHeap} {k m sz : Nat} {es : List (List IV)} (hk : J.obj k = none) (ho : H.obj k = some (.row sz es)) (hm : es.length = m) (h : NB J.next (.sl sz es)) : Fz H J (.os k m) (.sl sz es) :=
  .os k m sz es es hk ho hm rfl (fun _ _ _ h1 h2 => by rw [h1] at h2; cases h2; rfl) fun i e e' h1 h2 => by
    rw [h1] at h2
    cases h2
    exact fzs (NB_sl.1 h e (List.mem_of_getElem? h1))

theorem Fz.ptr {H J : IHeap} {k : Nat} {cs : List IV} (hk : J.obj k = none) (ho : H.obj k = some (.cells cs)) (h : ∀ c, c ∈ cs → NB J.next c) : Fz H J (.p k 0) (.cp cs) :=
  .p k 0 cs cs hk ho rfl (fzs h)

end Go.Idl

namespace Go.Idl

open Go Go.RowKit

variable {P : Program} {N : Nat} {tm : Tm} {H : IHeap}

def IHeap.fix (H : IHeap) (k : Nat) (cs : List IV) : IHeap := { next := H.next + 1, obj := fun i => if i = H.next then some (.cells cs) else if i = k then none else H.obj i, sn := H.sn }

def fixG (g : Gs) (k b : Nat) : Gs := { oth := g.oth, mu := fun i => if i = g.nx then .pointer (some ⟨b, 0, none⟩) else g.mu i, sh := fun i => if i = g.nx then some .fx else if i = k then none else g.sh i, nx := g.nx + 1 }

theorem fix_sim {k sz : Nat} {es : List (List IV)} (hk : H.obj k = some (.row sz es)) (hn : 0 < es.length) {w : World} {g : Gs} (s : Sim w g H) :
    ∃ b cap, g.mu k = .slice (some ⟨b, 0, none⟩) es.length cap ∧ es.length ≤ cap ∧ Mono w g w (fixG g k b) ∧ Sim w (fixG g k b) (H.fix k es.flatten) := by
  obtain ⟨a, cap, h1, h2, h3, h4, h5, h6⟩ := s.obj k _ hk
  rcases h6 with ⟨_, h6⟩ | ⟨b, xs, el, f, rfl, h7, h8, h9, h10⟩
  · omega
  have hsh : g.sh k = some (.row es.length) := by rw [s.sh, IHeap.sh, hk]; rfl
  have hkl : k < H.next := s.lt k (by rw [hk]; rfl)
  have hne : k ≠ g.nx := by rw [s.nx]; omega
  refine ⟨b, cap, h1, h2, ?_⟩
  have hb := s.bk k b (by rw [hsh]; rfl) (by rw [h1]; rfl)
  have hcase : ∀ i, ((fixG g k b).sh i).isSome = true → i = g.nx ∨ (i ≠ g.nx ∧ i ≠ k ∧ (g.sh i).isSome = true) := by
    intro i h
    simp only [fixG] at h
    split at h
    · rename_i e; exact .inl e
    · rename_i e
      split at h
      · cases h
      · rename_i e'; exact .inr ⟨e, e', h⟩
  have m : Mono w g w (fixG g k b) := by
    refine ⟨Nat.le_refl _, rfl, rfl, rfl, fun _ _ _ => rfl, ?_, rfl, Nat.le_succ _, ?_, ?_⟩
    · rintro c hc (h | ⟨i, q1, q2⟩)
      · exact .inl h
      · rcases hcase i q1 with e | ⟨e, e', q3⟩
        · simp only [fixG, if_pos e, blk, Option.some.injEq] at q2
          subst q2
          exact .inr ⟨k, by rw [hsh]; rfl, by rw [h1]; rfl⟩
        · simp only [fixG, if_neg e] at q2
          exact .inr ⟨i, q3, q2⟩
    · intro i hi h
      have e : ¬ i = g.nx := by omega
      simp only [fixG, if_neg e] at h ⊢
      split at h
      · cases h
      · exact ⟨h, trivial⟩
    · intro i m' hi h
      have e : ¬ i = g.nx := by omega
      simp only [fixG, if_neg e] at h ⊢
      split at h
      · cases h
      · exact ⟨m', h, Nat.le_refl _, fun _ => trivial⟩
  refine ⟨m, ⟨?_, fun i => ?_, fun i h => ?_, fun i c q1 q2 => ?_, fun i j c q1 q2 q3 q4 => ?_, fun i o h => ?_, s.old, fun p hp i hi => (s.snap p hp i hi).mono m⟩⟩
  · show g.nx + 1 = _
    rw [s.nx]; rfl
  · simp only [fixG, IHeap.sh, IHeap.fix, s.nx]
    by_cases e : i = H.next
    · simp [e, HO.sh]
    · by_cases e' : i = k
      · rw [if_neg e, if_pos e', if_neg e, if_pos e']
        rfl
      · rw [if_neg e, if_neg e', if_neg e, if_neg e']
        exact s.sh i
  · simp only [IHeap.fix] at h ⊢
    split at h
    · rename_i e; omega
    · split at h
      · cases h
      · exact Nat.lt_succ_of_lt (s.lt i h)
  · rcases hcase i q1 with e | ⟨e, e', q3⟩
    · simp only [fixG, if_pos e, blk, Option.some.injEq] at q2 ⊢
      subst q2
      exact hb
    · simp only [fixG, if_neg e] at q2 ⊢
      exact s.bk i c q3 q2
  · rcases hcase i q1 with e | ⟨e, e', q5⟩ <;> rcases hcase j q2 with d | ⟨d, d', q6⟩
    · rw [e, d]
    · simp only [fixG, if_pos e, if_neg d, blk, Option.some.injEq] at q3 q4
      subst q3
      exact absurd (s.inj j k b q6 (by rw [hsh]; rfl) q4 (by rw [h1]; rfl)) d'
    · simp only [fixG, if_neg e, if_pos d, blk, Option.some.injEq] at q3 q4
      subst q4
      exact absurd (s.inj i k b q5 (by rw [hsh]; rfl) q3 (by rw [h1]; rfl)) e'
    · simp only [fixG, if_neg e, if_neg d] at q3 q4
      exact s.inj i j c q5 q6 q3 q4
  · simp only [IHeap.fix] at h
    split at h
    · rename_i e
      cases h
      have e' : i = g.nx := by rw [s.nx]; exact e
      refine ⟨b, xs, el, f, by simp [fixG, e'], h7, h8, h10.mono m⟩
    · rename_i e
      split at h
      · cases h
      · have e' : ¬ i = g.nx := by rw [s.nx]; exact e
        have hmu : (fixG g k b).mu i = g.mu i := by simp [fixG, e']
        rw [hmu]
        exact (s.obj i o h).mono m fun _ _ => rfl

theorem GhR.fix {k sz : Nat} {es : List (List IV)} (hk : H.obj k = some (.row sz es)) (hn : 0 < es.length) : GhR (.os k es.length) H (.bs H.next 0 es.length) (H.fix k es.flatten) := by
  intro w g s
  obtain ⟨b, cap, h1, h2, m, s'⟩ := fix_sim hk hn s
  refine ⟨_, m, s', fun x hx => ?_⟩
  have hsh : g.sh k = some (.row es.length) := by rw [s.sh, IHeap.sh, hk]; rfl
  cases hx with
  | os _ _ _ _ h _ =>
    have hx := (h _ hsh).2 rfl
    rw [hx, h1]
    refine .bs _ _ _ _ (by rw [← s.nx]; exact Nat.lt_succ_self _) ⟨_, _, rfl, h2⟩ fun _ _ _ => ⟨b, cap, ?_, rfl⟩
    simp [fixG, s.nx]

theorem GhR.drop {r r' : IV} {J : IHeap} (hs : SubH J H) (hnx : J.next = H.next) (hsn : J.sn = H.sn) (hf : Fz H J r r') : GhR r H r' J := by
  intro w g s
  have hlt : ∀ k o, J.obj k = some o → k < J.next := fun k o h => by
    rcases Nat.lt_or_ge k J.next with e | e
    · exact e
    · have h1 := hs k o h
      rw [s.wf k (by omega)] at h1
      cases h1
  have he : EndH H H J := ⟨by omega, by omega, hs, hlt, .inl hnx, hsn⟩
  obtain ⟨s1, m1⟩ := he.sim s (.refl w g) s
  exact ⟨_, m1, s1, fun x hx => hf.sound s hs hx⟩

def IHeap.keep (H : IHeap) (n k : Nat) : IHeap := { H with obj := fun i => if i < n ∨ i = k then H.obj i else none }

theorem keep_sub {n k : Nat} : SubH (H.keep n k) H := by
  intro i o h
  simp only [IHeap.keep] at h
  split at h
  · exact h
  · cases h

theorem GhR.keep {r : IV} (n k : Nat) : GhR r H r (H.keep n k) := by
  intro w g s
  have he : EndH H H (H.keep n k) := ⟨Nat.le_refl _, Nat.le_refl _, keep_sub, fun i o h => s.lt i (by rw [keep_sub i o h]; rfl), .inl rfl, rfl⟩
  obtain ⟨s1, m1⟩ := he.sim s (.refl w g) s
  refine ⟨_, m1, s1, fun x hx => hx.to (he.sub.sh s) ?_⟩
  have := hx.nb
  rw [s.nx] at this
  exact this

@[go_sem] theorem keep_next {n k : Nat} : (H.keep n k).next = H.next := rfl

@[go_sem] theorem keep_obj {n k i : Nat} : (H.keep n k).obj i = if i < n ∨ i = k then H.obj i else none := rfl

@[go_sem] theorem fix_next {k : Nat} {cs : List IV} : (H.fix k cs).next = H.next + 1 := rfl

@[go_sem] theorem fix_obj {k i : Nat} {cs : List IV} : (H.fix k cs).obj i = if i = H.next then some (.cells cs) else if i = k then none else H.obj i := rfl

theorem Ext.keep {H H' : IHeap} (h : Ext H H') (k : Nat) : Ext H (H'.keep H.next k) := by
  refine ⟨h.wf, h.le, fun i o hi => ?_, h.sn⟩
  simp only [IHeap.keep]
  have : i < H.next := by
    rcases Nat.lt_or_ge i H.next with e | e
    · exact e
    · rw [h.wf i e] at hi; cases hi
  rw [if_pos (.inl this)]
  exact h.sub i o hi

theorem Ext.fix {H H' : IHeap} (h : Ext H H') {k : Nat} (hk : H.next ≤ k) (cs : List IV) : Ext H (H'.fix k cs) := by
  refine ⟨h.wf, Nat.le_succ_of_le h.le, fun i o hi => ?_, h.sn⟩
  have : i < H.next := by
    rcases Nat.lt_or_ge i H.next with e | e
    · exact e
    · rw [h.wf i e] at hi; cases hi
  have hle := h.le
  simp only [IHeap.fix]
  rw [if_neg (by omega), if_neg (by omega)]
  exact h.sub i o hi

end Go.Idl

namespace Go.Idl

open Go Go.RowKit

variable {P : Program} {N : Nat} {tm : Tm} {H : IHeap} {Q : Exit → Tm → IHeap → Prop}

end Go.Idl

namespace Go.Idl

open Go Go.RowKit

variable {P : Program} {N : Nat} {tm : Tm} {H : IHeap}

/-! ### Lists of keys and things -/

section

variable {κ α : Type} [DecidableEq κ]

def mget : List (κ × α) → κ → Option α
  | [], _ => none
  | p :: m, k => if p.1 = k then some p.2 else mget m k

def mset : List (κ × α) → κ → α → List (κ × α)
  | [], k, v => [(k, v)]
  | p :: m, k, v => if p.1 = k then (k, v) :: m else p :: mset m k v

def mdel : List (κ × α) → κ → List (κ × α)
  | [], _ => []
  | p :: m, k => if p.1 = k then m else p :: mdel m k

end

def mE {α : Type} (f : α → IV) (m : List (List UInt8 × α)) : List (Value × IV) := m.map fun p => (str p.1, f p.2)

def mI {α : Type} (j : IntKind) (f : α → IV) (m : List (Int × α)) : List (Value × IV) := m.map fun p => (.int j p.1, f p.2)

theorem keyEq_str {a b : List UInt8} : keyEq (str a) (str b) = decide (b = a) := by
  show ((⟨a.toArray⟩ : ByteArray) == ⟨b.toArray⟩) = decide (b = a)
  rw [Bool.eq_iff_iff, Go.MapKept.bytes_beq, decide_eq_true_eq]
  constructor
  · intro h; have := congrArg (fun x : ByteArray => x.data.toList) h; simpa using this.symm
  · rintro rfl; rfl

theorem keyEq_int {j : IntKind} {a b : Int} : keyEq (.int j a) (.int j b) = decide (b = a) := by
  show (a == b) = decide (b = a)
  rw [Bool.eq_iff_iff, beq_iff_eq, decide_eq_true_eq]
  exact eq_comm

section

variable {α : Type} {f : α → IV} {m : List (List UInt8 × α)}

theorem lkI_mE {k : List UInt8} : lkI (str k) (mE f m) = (mget m k).map f := by
  induction m with
  | nil => rfl
  | cons p m ih =>
    have e : mE f (p :: m) = (str p.1, f p.2) :: mE f m := rfl
    rw [e]
    unfold lkI at ih ⊢
    rw [List.find?_cons]
    simp only [keyEq_str, mget]
    by_cases h : p.1 = k
    · simp [h]
    · simp only [h, decide_false, if_false]
      exact ih

theorem setI_mE (f : α → IV) (m : List (List UInt8 × α)) (k : List UInt8) (v : α) : setI (str k) (f v) (mE f m) = mE f (mset m k v) := by
  induction m with
  | nil => rfl
  | cons p m ih =>
    have e : mE f (p :: m) = (str p.1, f p.2) :: mE f m := rfl
    rw [e]
    simp only [setI, keyEq_str, mset]
    by_cases h : p.1 = k
    · simp [h, mE]
    · simp only [h, decide_false, if_false, Bool.false_eq_true]
      rw [ih]
      rfl

theorem delI_mE {k : List UInt8} : delI (str k) (mE f m) = mE f (mdel m k) := by
  induction m with
  | nil => rfl
  | cons p m ih =>
    have e : mE f (p :: m) = (str p.1, f p.2) :: mE f m := rfl
    rw [e]
    simp only [delI, keyEq_str, mdel]
    by_cases h : p.1 = k
    · simp [h, mE]
    · simp only [h, decide_false, if_false, Bool.false_eq_true]
      rw [ih]
      rfl

@[go_sem] theorem mE_nil {f : α → IV} : mE f [] = [] := rfl

@[go_sem] theorem mE_length : (mE f m).length = m.length := by simp [mE]

@[go_sem] theorem mE_keys : ((mE f m).all fun e => keyOk .string e.1) = true := by simp [mE, keyOk]

end

section

variable {α : Type} {j : IntKind} {f : α → IV} {m : List (Int × α)}

theorem lkI_mI {k : Int} : lkI (.int j k) (mI j f m) = (mget m k).map f := by
  induction m with
  | nil => rfl
  | cons p m ih =>
    have e : mI j f (p :: m) = (.int j p.1, f p.2) :: mI j f m := rfl
    rw [e]
    unfold lkI at ih ⊢
    rw [List.find?_cons]
    simp only [keyEq_int, mget]
    by_cases h : p.1 = k
    · simp [h]
    · simp only [h, decide_false, if_false]
      exact ih

theorem setI_mI (f : α → IV) (m : List (Int × α)) (k : Int) (v : α) : setI (.int j k) (f v) (mI j f m) = mI j f (mset m k v) := by
  induction m with
  | nil => rfl
  | cons p m ih =>
    have e : mI j f (p :: m) = (.int j p.1, f p.2) :: mI j f m := rfl
    rw [e]
    simp only [setI, keyEq_int, mset]
    by_cases h : p.1 = k
    · simp [h, mI]
    · simp only [h, decide_false, if_false, Bool.false_eq_true]
      rw [ih]
      rfl

@[go_sem] theorem mI_keys : ((mI j f m).all fun e => keyOk (.int j) e.1) = true := by simp [mI, keyOk]

end

@[go_sem] theorem keyOk_str {s : ByteArray} : keyOk .string (.string s) = true := rfl

@[go_sem] theorem keyOk_int {j : IntKind} {n : Int} : keyOk (.int j) (.int j n) = true := by simp [keyOk]

@[go_sem] theorem all_nilK {d : TypeDesc} : (([] : List (Value × IV)).all fun e => keyOk d e.1) = true := rfl

theorem okI_f {α : Type} (f : α → IV) (d : α) {z : IV} {o : Option α} (hz : f d = z) : okI false z (o.map f) = f (o.getD d) := by
  subst hz; cases o <;> simp [okI]

theorem okI_t {α : Type} (f : α → IV) (d : α) {z : IV} {o : Option α} (hz : f d = z) : okI true z (o.map f) = .tu [f (o.getD d), .v (.bool o.isSome)] := by
  subst hz; cases o <;> simp [okI]

/-! ### The rules -/

def zvA (P : Program) (t : TypeId) (z : Option Value) (u : Option TypeDesc) : Option IV :=
  match z with
  | some (.slice none 0 0) => match u with | some (.slice e) => some (.sl (P.cellsOf e) []) | _ => none
  | some (.agg cs) => if (cs.toList.all (·.oneCell')) = true then some (.ag (zvc cs.toList (szCells P 9 t))) else none
  | some z => some (.v z)
  | none => none

@[go_sem] theorem zvI_eq {t : TypeId} : zvI P t = zvA P t (zeroOf P t) (P.underlying t) := rfl

@[go_sem] theorem zvA_sl {t : TypeId} {e : TypeId} : zvA P t (some (.slice none 0 0)) (some (.slice e)) = some (.sl (P.cellsOf e) []) := rfl

@[go_sem] theorem zvA_int {t : TypeId} {u : Option TypeDesc} {j : IntKind} {n : Int} : zvA P t (some (.int j n)) u = some (.v (.int j n)) := rfl

@[go_sem] theorem zvA_bool {t : TypeId} {u : Option TypeDesc} {b : Bool} : zvA P t (some (.bool b)) u = some (.v (.bool b)) := rfl

@[go_sem] theorem zvA_str {t : TypeId} {u : Option TypeDesc} {s : ByteArray} : zvA P t (some (.string s)) u = some (.v (.string s)) := rfl

attribute [go_sem] zvc

def lkB (d : Option TypeDesc) (z : Option IV) (H : IHeap) (x i : IV) (ok : Bool) : Option (Prop × IV) :=
  match d, z, i with
  | some d, some z, .v k =>
    match x with
    | .mp m =>
      match H.obj m with
      | some (.map es) => some (keyOk d k = true ∧ (es.all fun e => keyOk d e.1) = true, okI ok z (lkI k es))
      | some (.mapB _ _ es) => some (keyOk d k = true ∧ (es.all fun e => keyOk d e.1) = true, okI ok z (lkI k es))
      | _ => none
    | .v (.map none) => some (keyOk d k = true, okI ok z none)
    | _ => none
  | _, _, _ => none

def lkA (P : Program) (u : Option TypeDesc) (H : IHeap) (x i : IV) (ok : Bool) : Option (Prop × IV) :=
  match u with
  | some (.map kt et) => lkB (P.underlying kt) (zvI P et) H x i ok
  | _ => none

def lkC (d : TypeDesc) (z : IV) (k : Value) (ok : Bool) (o : Option HO) : Option (Prop × IV) :=
  match o with
  | some (.map es) => some (keyOk d k = true ∧ (es.all fun e => keyOk d e.1) = true, okI ok z (lkI k es))
  | some (.mapB _ _ es) => some (keyOk d k = true ∧ (es.all fun e => keyOk d e.1) = true, okI ok z (lkI k es))
  | _ => none

@[go_sem] theorem lkX_eq {t : TypeId} {x i : IV} {ok : Bool} : lkX P H t x i ok = lkA P (P.underlying t) H x i ok := rfl

@[go_sem] theorem lkA_map {kt et : TypeId} {x i : IV} {ok : Bool} : lkA P (some (.map kt et)) H x i ok = lkB (P.underlying kt) (zvI P et) H x i ok := rfl

@[go_sem] theorem lkB_mp {d : TypeDesc} {z : IV} {m : Nat} {k : Value} {ok : Bool} : lkB (some d) (some z) H (.mp m) (.v k) ok = lkC d z k ok (H.obj m) := rfl

@[go_sem] theorem lkB_nil {d : TypeDesc} {z : IV} {k : Value} {ok : Bool} : lkB (some d) (some z) H (.v (.map none)) (.v k) ok = some (keyOk d k = true, okI ok z none) := rfl

@[go_sem] theorem lkC_map {d : TypeDesc} {z : IV} {k : Value} {ok : Bool} {es : List (Value × IV)} : lkC d z k ok (some (.map es)) = some (keyOk d k = true ∧ (es.all fun e => keyOk d e.1) = true, okI ok z (lkI k es)) := rfl

def muB (d : Option TypeDesc) (H : IHeap) (x i y : IV) : Option (Prop × IV × IHeap) :=
  match d, i, x with
  | some d, .v k, .mp m =>
    match H.obj m with
    | some (.map es) => some (keyOk d k = true ∧ (es.all fun e => keyOk d e.1) = true, .v undef, H.set m (.map (setI k y es)))
    | _ => none
  | _, _, _ => none

def muA (P : Program) (u : Option TypeDesc) (H : IHeap) (x i y : IV) : Option (Prop × IV × IHeap) :=
  match u with
  | some (.map kt _) => muB (P.underlying kt) H x i y
  | _ => none

def muC (d : TypeDesc) (H : IHeap) (k : Value) (m : Nat) (y : IV) (o : Option HO) : Option (Prop × IV × IHeap) :=
  match o with
  | some (.map es) => some (keyOk d k = true ∧ (es.all fun e => keyOk d e.1) = true, .v undef, H.set m (.map (setI k y es)))
  | _ => none

@[go_sem] theorem muX_eq {t : TypeId} {x i y : IV} : muX P H t x i y = muA P (P.underlying t) H x i y := rfl

@[go_sem] theorem muA_map {kt et : TypeId} {x i y : IV} : muA P (some (.map kt et)) H x i y = muB (P.underlying kt) H x i y := rfl

@[go_sem] theorem muB_mp {d : TypeDesc} {m : Nat} {k : Value} {y : IV} : muB (some d) H (.mp m) (.v k) y = muC d H k m y (H.obj m) := rfl

@[go_sem] theorem muC_map {d : TypeDesc} {k : Value} {m : Nat} {y : IV} {es : List (Value × IV)} : muC d H k m y (some (.map es)) = some (keyOk d k = true ∧ (es.all fun e => keyOk d e.1) = true, .v undef, H.set m (.map (setI k y es))) := rfl

def dlB (d : Option TypeDesc) (H : IHeap) (x i : IV) : Option (Prop × IV × IHeap) :=
  match d, i, x with
  | some d, .v k, .mp m =>
    match H.obj m with
    | some (.map es) => some (keyOk d k = true ∧ (es.all fun e => keyOk d e.1) = true, .tu [], H.set m (.map (delI k es)))
    | _ => none
  | _, _, _ => none

def dlA (P : Program) (u : Option TypeDesc) (H : IHeap) (x i : IV) : Option (Prop × IV × IHeap) :=
  match u with
  | some (.map kt _) => dlB (P.underlying kt) H x i
  | _ => none

def dlC (d : TypeDesc) (H : IHeap) (k : Value) (m : Nat) (o : Option HO) : Option (Prop × IV × IHeap) :=
  match o with
  | some (.map es) => some (keyOk d k = true ∧ (es.all fun e => keyOk d e.1) = true, .tu [], H.set m (.map (delI k es)))
  | _ => none

@[go_sem] theorem dlX_eq {t : TypeId} {x i : IV} : dlX P H t x i = dlA P (P.underlying t) H x i := rfl

@[go_sem] theorem dlA_map {kt et : TypeId} {x i : IV} : dlA P (some (.map kt et)) H x i = dlB (P.underlying kt) H x i := rfl

@[go_sem] theorem dlB_mp {d : TypeDesc} {m : Nat} {k : Value} : dlB (some d) H (.mp m) (.v k) = dlC d H k m (H.obj m) := rfl

@[go_sem] theorem dlC_map {d : TypeDesc} {k : Value} {m : Nat} {es : List (Value × IV)} : dlC d H k m (some (.map es)) = some (keyOk d k = true ∧ (es.all fun e => keyOk d e.1) = true, .tu [], H.set m (.map (delI k es))) := rfl

def lnB (u : Option TypeDesc) (H : IHeap) (x : IV) : Option (Prop × IV) :=
  match u, x with
  | some (.map _ _), .mp m =>
    match H.obj m with
    | some (.map es) => some (True, .v (.int .i64 es.length))
    | _ => none
  | _, _ => none

def lnC (o : Option HO) : Option (Prop × IV) :=
  match o with
  | some (.map es) => some (True, .v (.int .i64 es.length))
  | _ => none

@[go_sem] theorem lnX_eq {t : TypeId} {x : IV} : lnX P H t x = lnB (P.underlying t) H x := rfl

@[go_sem] theorem lnB_mp {a b : TypeId} {m : Nat} : lnB (some (.map a b)) H (.mp m) = lnC (H.obj m) := rfl

@[go_sem] theorem lnC_map {es : List (Value × IV)} : lnC (some (.map es)) = some (True, .v (.int .i64 es.length)) := rfl

@[go_sem] theorem lenP_mp {a b : TypeId} {m : Nat} : lenP (some (.map a b)) (.mp m) = none := rfl

end Go.Idl

namespace Go.Idl

open Go Go.RowKit

variable {P : Program} {N : Nat} {tm : Tm} {H : IHeap} {Q : Exit → Tm → IHeap → Prop}

theorem Sim.delK {w : World} {g : Gs} (s : Sim w g H) (k : Nat) : Sim w (g.to (H.del k)) (H.del k) ∧ Mono w g w (g.to (H.del k)) := (endH_del H s.wf k).sim s (.refl w g) s

theorem del_sub (k : Nat) : SubH (H.del k) H := fun i o h => by
  simp only [IHeap.del] at h
  split at h
  · cases h
  · exact h

theorem Sim.del_os {w : World} {g : Gs} (s : Sim w g H) {k sz n : Nat} {es : List (List IV)} (hk : H.obj k = some (.row sz es)) (hn : es.length = n) {x : Value} (hx : R w g x (.os k n)) : R w (g.to (H.del k)) x (.sl sz es) := by
  subst hn
  refine (Fz.os k es.length sz es es (by simp [IHeap.del]) hk rfl rfl (fun j e e' h1 h2 => by rw [h1] at h2; cases h2; rfl) fun j e e' h1 h2 q c c' h3 h4 => ?_).sound s (del_sub k) hx
  rw [h1] at h2
  cases h2
  rw [h3] at h4
  cases h4
  refine .wk _ _ (fun _ _ _ h => h) ?_
  have hnb := (s.obj k _ hk).nb
  rw [s.nx] at hnb
  exact hnb e (List.mem_of_getElem? h1) c (List.mem_of_getElem? h3)

theorem Sim.del_R {w : World} {g : Gs} (s : Sim w g H) (k : Nat) {x : Value} {i : IV} (hx : R w g x i) : R w (g.to (H.del k)) x i := hx.mono (s.delK k).2

/-! ### Ghost values of which one row is frozen -/

inductive FzK (H : IHeap) (k : Nat) : IV → IV → Prop
  | same (a : IV) : FzK H k a a
  | row (sz n : Nat) (es : List (List IV)) (hk : H.obj k = some (.row sz es)) (hn : es.length = n) : FzK H k (.os k n) (.sl sz es)

inductive FzKL (H : IHeap) (k : Nat) : List IV → List IV → Prop
  | nil : FzKL H k [] []
  | cons {a b : IV} {l m : List IV} (h : FzK H k a b) (t : FzKL H k l m) : FzKL H k (a :: l) (b :: m)

theorem FzK.sound {w : World} {g : Gs} (s : Sim w g H) {k : Nat} {a b : IV} (h : FzK H k a b) {x : Value} (hx : R w g x a) : R w (g.to (H.del k)) x b := by
  cases h with
  | same => exact s.del_R k hx
  | row sz n es hk hn => exact s.del_os hk hn hx

theorem FzKL.len {k : Nat} {l m : List IV} (h : FzKL H k l m) : m.length = l.length := by
  induction h with
  | nil => rfl
  | cons _ _ ih => simp [ih]

theorem FzKL.get {k : Nat} {l m : List IV} (h : FzKL H k l m) : ∀ (j : Nat) (a b : IV), l[j]? = some a → m[j]? = some b → FzK H k a b := by
  induction h with
  | nil => intro j a b h; simp at h
  | cons h _ ih =>
    intro j a b h1 h2
    cases j with
    | zero => simp at h1 h2; subst h1; subst h2; exact h
    | succ j => exact ih j a b (by simpa using h1) (by simpa using h2)

theorem FzKL.refl {k : Nat} : ∀ (l : List IV), FzKL H k l l
  | [] => .nil
  | _ :: l => .cons (.same _) (FzKL.refl l)

theorem ICalls.fz {f : FuncId} {k : Nat} {args args' : List IV} {K : IEnd → IHeap → Prop} (ha : FzKL H k args args') (h : ICalls P f args' (H.del k) K) : ICalls P f args H K := by
  refine ⟨h.body, fun w g vs s rl => ?_⟩
  obtain ⟨s1, m1⟩ := s.delK k
  have rl' : RL w (g.to (H.del k)) vs args' := ⟨rl.1.trans ha.len.symm, fun j x c hx hc => by
    have hlt : j < args.length := by rw [← ha.len]; exact (List.getElem?_eq_some_iff.1 hc).1
    exact (ha.get j _ c (List.getElem?_eq_getElem hlt) hc).sound s (rl.2 j x _ hx (List.getElem?_eq_getElem hlt))⟩
  exact (h.run w _ vs s1 rl').mono fun e w' ⟨ie, g', H', m, s', r, q⟩ => ⟨ie, g', H', m1.tr m s s1, s', r, q⟩

theorem Gh.fz {tm tm' : Tm} {k : Nat} (h : ∀ i, FzK H k (tm i) (tm' i)) : Gh tm H tm' (H.del k) := fun w g s => by
  obtain ⟨s1, m1⟩ := s.delK k
  exact ⟨_, m1, s1, fun a r i hi => (h i).sound s (r i hi)⟩

theorem FzK.upd {k d : Nat} {tm : Tm} {x : IV} (h : FzK H k (tm d) x) : ∀ i, FzK H k (tm i) (upd tm d x i) := fun i => by
  unfold Idl.upd
  split
  · rename_i e; subst e; exact h
  · exact .same _

/-! ### A named thing, told another way -/

theorem Sim.retell {w : World} {g : Gs} (s : Sim w g H) {k : Nat} {o o' : HO} (hk : H.obj k = some o) (hsh : o'.sh = o.sh) (hr : ObjR w g (g.mu k) o → ObjR w g (g.mu k) o') : Sim w g (H.set k o') where
  nx := s.nx
  sh := fun i => by
    rw [s.sh]
    simp only [IHeap.sh, IHeap.set]
    split
    · rename_i e; subst e; rw [hk, Option.map_some, Option.map_some, hsh]
    · rfl
  lt := fun i hi => by
    simp only [IHeap.set] at hi ⊢
    split at hi
    · rename_i e; subst e; exact s.lt i (by rw [hk]; rfl)
    · exact s.lt i hi
  bk := s.bk
  inj := s.inj
  obj := fun i o1 h1 => by
    simp only [IHeap.set] at h1
    split at h1
    · rename_i e
      subst e
      cases h1
      exact hr (s.obj i _ hk)
    · exact s.obj i o1 h1
  old := s.old
  snap := s.snap

theorem Gh.retell {k : Nat} {o o' : HO} (hk : H.obj k = some o) (hsh : o'.sh = o.sh) (hr : ∀ w g x, ObjR w g x o → ObjR w g x o') : Gh tm H tm (H.set k o') := fun w g s =>
  ⟨g, .refl w g, s.retell hk hsh (hr w g _), fun _ r => r⟩

theorem Gh.fzBox {k kb : Nat} {cs cs' : List IV} (hb : H.obj kb = some (.cells cs)) (hne : ¬ kb = k) (h : FzKL H k cs cs') : Gh tm H tm ((H.del k).set kb (.cells cs')) := fun w g s => by
  obtain ⟨s1, m1⟩ := s.delK k
  refine ⟨_, m1, s1.retell (o := .cells cs) (by simp [IHeap.del, hne, hb]) rfl ?_, fun a r i hi => (r i hi).mono m1⟩
  intro _
  obtain ⟨b, xs, el, f, h1, h2, h3, hc⟩ := s.obj kb _ hb
  refine ⟨b, xs, el, f, h1, h2, h3, by rw [h.len]; exact hc.1, fun j c hj => ?_⟩
  have hlt : j < cs.length := by rw [← h.len]; exact (List.getElem?_eq_some_iff.1 hj).1
  obtain ⟨x, q1, q2, q3⟩ := hc.2 j _ (List.getElem?_eq_getElem hlt)
  exact ⟨x, q1, q2, (h.get j _ c (List.getElem?_eq_getElem hlt) hj).sound s q3⟩

theorem IOper.gh {o : Oper} {K : IV → IHeap → Prop} {Qp : List PanicEntry → IHeap → Prop} {tm' : Tm} {H' : IHeap} (hg : Gh tm H tm' H') (hd : Bool) (h : IOper P N o tm' H' K Qp) : IOper P N o tm H K Qp := by
  refine ⟨h.nd, fun rr w g a s r hN => ?_⟩
  obtain ⟨g1, m1, s1, r1⟩ := hg w g s
  exact uponIn_mono (fun a' w' ⟨x, i, g', H', h1, h2, h3, h4, h5⟩ => ⟨x, i, g', H', h1, m1.tr h2 s s1, h3, h4, h5⟩)
    (fun e a' w' ⟨ch, g', H', h1, h2, h3, h4, h5⟩ => ⟨ch, g', H', h1, h2, m1.tr h3 s s1, h4, h5⟩) ⟨rr, rfl⟩ (h.run rr w g1 a s1 (r1 a r) hN)

/-! ### Names given anew -/

inductive Rn (H J : IHeap) (ρ : Nat → Nat) (m : Nat) : IV → IV → Prop
  | same (i : IV) (h : NB m i) : Rn H J ρ m i i
  | any (i : IV) : Rn H J ρ m i .any
  | p (k off : Nat) (h : k < J.next) : Rn H J ρ m (.p (ρ k) off) (.p k off)
  | mp (k : Nat) (h : k < J.next) : Rn H J ρ m (.mp (ρ k)) (.mp k)
  | os (k n : Nat) (h : k < J.next) : Rn H J ρ m (.os (ρ k) n) (.os k n)
  | bs (k off n : Nat) (h : k < J.next) : Rn H J ρ m (.bs (ρ k) off n) (.bs k off n)
  | ag (cs cs' : List IV) (hl : cs'.length = cs.length) (h : ∀ (j : Nat) (c c' : IV), cs[j]? = some c → cs'[j]? = some c' → Rn H J ρ m c c') : Rn H J ρ m (.ag cs) (.ag cs')
  | tu (cs cs' : List IV) (hl : cs'.length = cs.length) (h : ∀ (j : Nat) (c c' : IV), cs[j]? = some c → cs'[j]? = some c' → Rn H J ρ m c c') : Rn H J ρ m (.tu cs) (.tu cs')
  | fn (f : Fn) (a b b' : List IV) (ha : a = []) (hl' : b'.length = b.length) (h' : ∀ (j : Nat) (c c' : IV), b[j]? = some c → b'[j]? = some c' → Rn H J ρ m c c') : Rn H J ρ m (.fn f a b) (.fn f a b')

inductive RnL (H J : IHeap) (ρ : Nat → Nat) (m : Nat) : List IV → List IV → Prop
  | nil : RnL H J ρ m [] []
  | cons {a b : IV} {l k : List IV} (h : Rn H J ρ m a b) (t : RnL H J ρ m l k) : RnL H J ρ m (a :: l) (b :: k)

theorem RnL.len {J : IHeap} {ρ : Nat → Nat} {m : Nat} {l k : List IV} (h : RnL H J ρ m l k) : k.length = l.length := by
  induction h with
  | nil => rfl
  | cons _ _ ih => simp [ih]

theorem RnL.get {J : IHeap} {ρ : Nat → Nat} {m : Nat} {l k : List IV} (h : RnL H J ρ m l k) : ∀ (j : Nat) (a b : IV), l[j]? = some a → k[j]? = some b → Rn H J ρ m a b := by
  induction h with
  | nil => intro j a b h; simp at h
  | cons h _ ih =>
    intro j a b h1 h2
    cases j with
    | zero => simp at h1 h2; subst h1; subst h2; exact h
    | succ j => exact ih j a b (by simpa using h1) (by simpa using h2)

theorem RnL.same {J : IHeap} {ρ : Nat → Nat} {m : Nat} : ∀ {l : List IV}, (∀ c, c ∈ l → NB m c) → RnL H J ρ m l l
  | [], _ => .nil
  | _ :: _, h => .cons (.same _ (h _ (by simp))) (RnL.same fun c hc => h c (by simp [hc]))

inductive RnO (H J : IHeap) (ρ : Nat → Nat) (m : Nat) : HO → HO → Prop
  | cells (cs cs' : List IV) (h : RnL H J ρ m cs cs') : RnO H J ρ m (.cells cs) (.cells cs')
  | same (o : HO) (h : NBo m o) : RnO H J ρ m o o
  | ty (t : TypeId) (o o' : HO) (h : RnO H J ρ m o o') : RnO H J ρ m (.ty t o) (.ty t o')

theorem RnO.sh {J : IHeap} {ρ : Nat → Nat} {m : Nat} {o o' : HO} (h : RnO H J ρ m o o') : o'.sh = o.sh := by
  induction h with
  | cells => rfl
  | same => rfl
  | ty t o o' h ih => exact ih

structure EndR (H0 H J : IHeap) (ρ : Nat → Nat) : Prop where
  lo : H0.next ≤ J.next
  id : ∀ k, k < H0.next → ρ k = k
  le : H0.next ≤ H.next
  lt : ∀ k o, J.obj k = some o → k < J.next
  hi : ∀ k, k < J.next → ρ k < H.next
  inj : ∀ k k', (J.obj k).isSome = true → (J.obj k').isSome = true → ρ k = ρ k' → k = k'
  obj : ∀ k o', J.obj k = some o' → (H0.obj k = some o' ∧ H.obj (ρ k) = some o') ∨ ∃ o, H.obj (ρ k) = some o ∧ RnO H J ρ H0.next o o'
  sn : J.sn = H0.sn

def renG (g : Gs) (J : IHeap) (ρ : Nat → Nat) : Gs := { oth := g.oth, mu := fun k => g.mu (ρ k), sh := J.sh, nx := J.next }

section

variable {H0 J : IHeap} {ρ : Nat → Nat} {w : World} {g : Gs}

theorem EndR.shs (h : EndR H0 H J ρ) (s : Sim w g H) : ∀ k q, J.sh k = some q → g.sh (ρ k) = some q := by
  intro k q hq
  simp only [IHeap.sh, Option.map_eq_some_iff] at hq
  obtain ⟨o', h1, rfl⟩ := hq
  rcases h.obj k o' h1 with ⟨_, h2⟩ | ⟨o, h2, h3⟩
  · rw [s.sh, IHeap.sh, h2, Option.map_some]
  · rw [s.sh, IHeap.sh, h2, Option.map_some, h3.sh]

theorem EndR.ow (h : EndR H0 H J ρ) (s : Sim w g H) {b : Nat} (hb : (renG g J ρ).ow b) : g.ow b := by
  rcases hb with hb | ⟨k, h1, h2⟩
  · exact .inl hb
  · obtain ⟨q, hq⟩ := Option.isSome_iff_exists.1 h1
    exact .inr ⟨ρ k, by rw [h.shs s k q hq]; rfl, h2⟩

theorem EndR.R_low (h : EndR H0 H J ρ) (s : Sim w g H) {x : Value} {i : IV} (hx : R w g x i) (hn : NB H0.next i) : R w (renG g J ρ) x i := by
  have low : ∀ k, k < H0.next → k < J.next := fun k hk => Nat.lt_of_lt_of_le hk h.lo
  have shl : ∀ k q, k < H0.next → (renG g J ρ).sh k = some q → g.sh k = some q := fun k q hk hq => by
    have := h.shs s k q hq
    rwa [h.id k hk] at this
  have mul : ∀ k, k < H0.next → (renG g J ρ).mu k = g.mu k := fun k hk => by simp [renG, h.id k hk]
  induction hx with
  | v x => exact .v x
  | any x => exact .any x
  | sl0 a cap sz => exact .sl0 a cap sz
  | blk b xs el f x hb h1 => exact .blk b xs el f x (fun e => hb (h.ow s e)) h1
  | sl b off cap sz es cv hb hlt hlen hcap hsz hc ho _ ih =>
    exact .sl b off cap sz es cv (fun e => hb (h.ow s e)) hlt hlen hcap hsz hc ho fun i e j c h1 h2 => ih i e j c h1 h2 ((NB_sl.1 hn) e (List.mem_of_getElem? h1) c (List.mem_of_getElem? h2))
  | cp b off cs cv hb hlt hc ho _ ih => exact .cp b off cs cv (fun e => hb (h.ow s e)) hlt hc ho fun j c h1 => ih j c h1 (by cases hn with | cp _ q => exact q c (List.mem_of_getElem? h1))
  | ag xs cs hl ho _ ih => exact .ag xs cs hl ho fun j x c h1 h2 => ih j x c h1 h2 ((NB_ag.1 hn) c (List.mem_of_getElem? h2))
  | tu xs cs hl _ ih => exact .tu xs cs hl fun j x c h1 h2 => ih j x c h1 h2 ((NB_tu.1 hn) c (List.mem_of_getElem? h2))
  | fn f xs ys fi ca hl hl' _ _ ih ih' => exact .fn f xs ys fi ca hl hl' (fun j x c h1 h2 => ih j x c h1 h2 ((NB_fn.1 hn).1 c (List.mem_of_getElem? h2))) fun j x c h1 h2 => ih' j x c h1 h2 ((NB_fn.1 hn).2 c (List.mem_of_getElem? h2))
  | ifc t x c _ ih => exact .ifc t x c (ih (by cases hn with | ifc _ _ q => exact q))
  | p k off x hk hx hh =>
    have hk' := NB_p.1 hn
    exact .p k off x (low k hk') hx fun q hq e => by rw [mul k hk']; exact hh q (shl k q hk' hq) e
  | mp k x hk hx hh =>
    have hk' := NB_mp.1 hn
    exact .mp k x (low k hk') hx fun q hq e => by rw [mul k hk']; exact hh q (shl k q hk' hq) e
  | os k n x hk hh hx =>
    have hk' := NB_os.1 hn
    exact .os k n x (low k hk') (fun m hm => by rw [mul k hk']; exact hh m (shl k _ hk' hm)) hx
  | pr k n off x hk hx hh =>
    have hk' : k < H0.next := by cases hn with | pr _ _ _ q => exact q
    exact .pr k n off x (low k hk') hx fun m hm => by rw [mul k hk']; exact hh m (shl k _ hk' hm)
  | bs k off n x hk hx hh =>
    have hk' := NB_bs.1 hn
    exact .bs k off n x (low k hk') hx fun q hq e => by rw [mul k hk']; exact hh q (shl k q hk' hq) e

theorem Rn.sound (h : EndR H0 H J ρ) (s : Sim w g H) {i i' : IV} (r : Rn H J ρ H0.next i i') : ∀ {x : Value}, R w g x i → R w (renG g J ρ) x i' := by
  induction r with
  | same i hn => exact fun hx => h.R_low s hx hn
  | any i => exact fun _ => .any _
  | p k off hk =>
    intro x hx
    obtain ⟨_, h1, h2⟩ := hx.p_inv
    exact .p k off x hk h1 fun q hq e => h2 q (h.shs s k q hq) e
  | mp k hk =>
    intro x hx
    cases hx with
    | mp _ _ _ h1 h2 => exact .mp k x hk h1 fun q hq e => h2 q (h.shs s k q hq) e
  | os k n hk =>
    intro x hx
    cases hx with
    | os _ _ _ _ h1 h2 => exact .os k n x hk (fun m hm => h1 m (h.shs s k _ hm)) h2
  | bs k off n hk =>
    intro x hx
    cases hx with
    | bs _ _ _ _ _ h1 h2 => exact .bs k off n x hk h1 fun q hq e => h2 q (h.shs s k q hq) e
  | ag cs cs' hl _ ih =>
    intro x hx
    cases hx with
    | ag xs _ hl2 ho hr =>
      refine .ag xs cs' (by rw [hl2, hl]) ho fun j y c' h1 h2 => ?_
      obtain ⟨c, hc⟩ := get_same hl h2
      exact ih j c c' hc h2 (hr j y c h1 hc)
  | tu cs cs' hl _ ih =>
    intro x hx
    cases hx with
    | tu xs _ hl2 hr =>
      refine .tu xs cs' (by rw [hl2, hl]) fun j y c' h1 h2 => ?_
      obtain ⟨c, hc⟩ := get_same hl h2
      exact ih j c c' hc h2 (hr j y c h1 hc)
  | fn f a b b' ha hl' _ ih =>
    subst ha
    intro x hx
    cases hx with
    | fn _ xs ys _ _ hl2 hl3 hr hr' =>
      refine .fn f xs ys [] b' hl2 (by rw [hl3, hl']) (fun j y c h1 h2 => by simp at h2) fun j y c' h1 h2 => ?_
      obtain ⟨c, hc⟩ := get_same hl' h2
      exact ih j c c' hc h2 (hr' j y c h1 hc)

theorem RnO.sound (h : EndR H0 H J ρ) (s : Sim w g H) {o o' : HO} (r : RnO H J ρ H0.next o o') {x : Value} (hx : ObjR w g x o) : ObjR w (renG g J ρ) x o' := by
  induction r with
  | cells cs cs' hl =>
    obtain ⟨b, xs, el, f, h1, h2, h3, hc⟩ := hx
    refine ⟨b, xs, el, f, h1, h2, h3, by rw [hl.len]; exact hc.1, fun j c' hj => ?_⟩
    obtain ⟨c, hcj⟩ := get_same hl.len hj
    obtain ⟨y, q1, q2, q3⟩ := hc.2 j c hcj
    exact ⟨y, q1, q2, (hl.get j c c' hcj hj).sound h s q3⟩
  | same o hn =>
    induction o with
    | cells cs =>
      obtain ⟨b, xs, el, f, h1, h2, h3, hc⟩ := hx
      exact ⟨b, xs, el, f, h1, h2, h3, hc.1, fun j c hj => let ⟨y, q1, q2, q3⟩ := hc.2 j c hj; ⟨y, q1, q2, h.R_low s q3 (hn c (List.mem_of_getElem? hj))⟩⟩
    | row sz es =>
      obtain ⟨a, cap, h1, h2, h3, h4, h5, h6⟩ := hx
      refine ⟨a, cap, h1, h2, h3, h4, h5, ?_⟩
      rcases h6 with h6 | ⟨b, xs, el, f, h7, h8, h9, h10, hc⟩
      · exact .inl h6
      · refine .inr ⟨b, xs, el, f, h7, h8, h9, h10, hc.1, fun j c hj => let ⟨y, q1, q2, q3⟩ := hc.2 j c hj; ⟨y, q1, q2, h.R_low s q3 ?_⟩⟩
        obtain ⟨e, he, hce⟩ := List.mem_flatten.1 (List.mem_of_getElem? hj)
        exact hn e he c hce
    | obj o => exact hx
    | map es =>
      obtain ⟨b, ents, clock, h1, h2, h3⟩ := hx
      exact ⟨b, ents, clock, h1, h2, h3.imp fun y e he hy => h.R_low s hy (hn e he)⟩
    | mapB bs c es =>
      obtain ⟨b, ents, h1, h2, h3, h4⟩ := hx
      exact ⟨b, ents, h1, h2, h3.imp fun y e he hy => h.R_low s hy (hn e he), h4⟩
    | it km since seen c =>
      obtain ⟨b, bm, h1, h2, h3⟩ := hx
      exact ⟨b, bm, h1, h2, h.R_low s h3 (.mp _ hn)⟩
    | ty t o ih => exact ⟨ih hn hx.1, hx.2⟩
  | ty t o o' hr ih =>
    refine ⟨ih hx.1, fun b hb => ?_⟩
    obtain ⟨xs, h1, h2⟩ := hx.2 b hb
    refine ⟨xs, h1, fun cs e => ?_⟩
    subst e
    cases hr with
    | cells cs0 _ hl => rw [h2 cs0 rfl, hl.len]
    | same => exact h2 cs rfl

theorem EndR.endG (h : EndR H0 H J ρ) {r r' : IV} (hr : Rn H J ρ H0.next r r') : EndG H0 H r J r' := by
  intro w0 g0 w g s0 m s
  have hm : Mono w0 g0 w (renG g J ρ) := by
    refine ⟨m.size, m.os, m.tape, m.output, m.keep, fun b hb ho => m.own b hb (h.ow s ho), m.oth, by show g0.nx ≤ J.next; rw [s0.nx]; exact h.lo, ?_, ?_⟩
    · intro k hk hf
      have hk' : k < H0.next := by rw [← s0.nx]; exact hk
      have h1 := h.shs s k _ hf
      rw [h.id k hk'] at h1
      have h2 := m.fx k hk h1
      exact ⟨h2.1, by show g.mu (ρ k) = _; rw [h.id k hk']; exact h2.2⟩
    · intro k m' hk hf
      have hk' : k < H0.next := by rw [← s0.nx]; exact hk
      have h1 := h.shs s k _ hf
      rw [h.id k hk'] at h1
      obtain ⟨m1, h2, h3, h4⟩ := m.row k m' hk h1
      exact ⟨m1, h2, h3, fun e => by show g.mu (ρ k) = _; rw [h.id k hk']; exact h4 e⟩
  refine ⟨renG g J ρ, hm, ⟨rfl, fun _ => rfl, ?_, ?_, ?_, ?_, s.old, fun p hp i hi => (s0.snap p (by rw [← h.sn]; exact hp) i hi).mono hm⟩, fun x hx => hr.sound h s hx⟩
  · intro k hk
    obtain ⟨o, ho⟩ := Option.isSome_iff_exists.1 hk
    exact h.lt k o ho
  · intro k b h1 h2
    obtain ⟨q, hq⟩ := Option.isSome_iff_exists.1 h1
    exact s.bk (ρ k) b (by rw [h.shs s k q hq]; rfl) h2
  · intro k k' b h1 h2 h3 h4
    obtain ⟨q, hq⟩ := Option.isSome_iff_exists.1 h1
    obtain ⟨q', hq'⟩ := Option.isSome_iff_exists.1 h2
    have e := s.inj (ρ k) (ρ k') b (by rw [h.shs s k q hq]; rfl) (by rw [h.shs s k' q' hq']; rfl) h3 h4
    refine h.inj k k' ?_ ?_ e
    · have hq : (J.obj k).map HO.sh = some q := hq
      obtain ⟨o, ho, _⟩ := Option.map_eq_some_iff.1 hq; rw [ho]; rfl
    · have hq' : (J.obj k').map HO.sh = some q' := hq'
      obtain ⟨o, ho, _⟩ := Option.map_eq_some_iff.1 hq'; rw [ho]; rfl
  · intro k o' ho'
    rcases h.obj k o' ho' with ⟨h0, h1⟩ | ⟨o, h1, h2⟩
    · have hn := (s0.obj k o' h0).nb
      rw [s0.nx] at hn
      exact (RnO.same o' hn).sound h s (s.obj (ρ k) o' h1)
    · exact h2.sound h s (s.obj (ρ k) o h1)

end

end Go.Idl
