/- Heads in any order, their names in great letters, are the same heads: the saying of the case law 12 Part 2. Conditions: none. -/
import Derived.Test.YtdgfbojdppohnaaGreatDoorPartA
set_option linter.unusedSimpArgs false
set_option linter.unusedVariables false
namespace Go.Idl
open Go Go.RowKit
variable {P : Program} {N : Nat} {tm : Tm} {H : A0}
def AM (x : Option (Prop × IV)) (H : A0) : Option (Prop × IV × A0) :=
  match x with
  | some (s, r) => some (s, r, H)
  | none => none
def Ar (x : Option (Prop × IV × A0)) (K : IV → A0 → Prop) (alt : Prop) : Prop :=
  match x with
  | some (s, r, H) => s ∧ K r H
  | none => alt
def D2 (x : Option (FuncId × List IV)) (A : FuncId → List IV → Prop) (alt : Prop) : Prop :=
  match x with
  | some (f, cap) => A f cap
  | none => alt
def ldX (P : Program) (H : A0) (t : TypeId) (x : IV) : Option (Prop × IV) :=
  match x with
  | .p k off => ldN P H t (.p k off)
  | .pr k n off => ldN P H t (.pr k n off)
  | y => ldP P t y
def stX (P : Program) (H : A0) (t : TypeId) (x y : IV) : Option (Prop × IV × A0) :=
  match x with
  | .p k off =>
    match H.obj k, AD y with
    | some (.cells cs), some vc => some (AI (vc.length = P.cellsOf t) ∧ AI (0 < P.cellsOf t) ∧ AI (off + vc.length ≤ cs.length), .v undef, H.set k (.cells (CV cs vc off)))
    | some (.ty T (.cells cs)), some vc => some (AI (vc.length = P.cellsOf t) ∧ AI (0 < P.cellsOf t) ∧ AI (off + vc.length ≤ cs.length), .v undef, H.set k (.ty T (.cells (CV cs vc off))))
    | _, _ => none
  | .pr k n off =>
    match H.obj k, AD y with
    | some (.row sz es), some vc => some (AI (es.length = n) ∧ AI (vc.length = P.cellsOf t) ∧ AI (0 < P.cellsOf t) ∧ AI (off % sz + vc.length ≤ sz) ∧ AI (off < es.length * sz), .v undef, H.set k (.row sz (Cm sz es vc off)))
    | _, _ => none
  | _ => none
def ixX (P : Program) (H : A0) (t : TypeId) (x i : IV) : Option (Prop × IV) :=
  match x with
  | .os k n =>
    match P.underlying t, H.obj k, i with
    | some (.slice e), some (.row _ es), .v (.int _ m) => some (AI (es.length = n) ∧ AI (0 < P.cellsOf e) ∧ AI (0 ≤ m) ∧ AI (m < n), .pr k n (m.toNat * P.cellsOf e))
    | _, _, _ => none
  | y => ixP P (P.underlying t) y i
def alX (P : Program) (H : A0) (t : TypeId) : Option (Prop × IV × A0) :=
  match zeroOf P t with
  | some z => if z.cells.toList.all (·.oneCell') = true then some (True, .p H.next 0, H.new (tyB P t (.cells (z.cells.toList.map .v)))) else none
  | none => none
def bxX (H : A0) (x : IV) : Option (Prop × IV × A0) :=
  match AD x with
  | some cs => some (True, .p H.next 0, H.new (.cells cs))
  | none => none
def bzI (n : Nat) (x : Option (Nat × List IV)) : Option (Prop × IV) :=
  match x with
  | some (sz, rs) => some (True, .sl sz (chunks sz n rs))
  | none => none
def cmX (P : Program) (H : A0) (b : Builtin) (l ts : List IV) (ats : List TypeId) : Option (Prop × IV × A0) :=
  match b, l, ats with
  | .delete, [x, i], [t, _] => dlX P H t x i
  | .len, [x], [t] => match Er (P.underlying t) x with | some (s, r) => some (s, r, H) | none => AM (lnX P H t x) H
  | _, _, _ => none
def efX (P : Program) (H : A0) (tm : Tm) (op : Op) : Option (Prop × IV × A0) :=
  match op with
  | .alloc t => alX P H t
  | .box _ x => bxX H (ev tm x)
  | .load t x => AM (ldX P H t (ev tm x)) H
  | .store t x y => stX P H t (ev tm x) (ev tm y)
  | .indexAddr t x i => AM (ixX P H t (ev tm x) (ev tm i)) H
  | .buildSlice t (n + 1) ps => AM (bzI (n + 1) (bsI P t (n + 1) (ps.toList.map fun q => (q.1, ev tm q.2)))) H
  | .lookup t x i ok => AM (lkX P H t (ev tm x) (ev tm i) ok) H
  | .mapUpdate t x i y => muX P H t (ev tm x) (ev tm i) (ev tm y)
  | .insert t x i y => muX P H t (ev tm x) (ev tm i) (ev tm y)
  | .makeMap _ none => some (True, .mp H.next, H.new (.map []))
  | .call ⟨.builtin b, l, ats⟩ => cmX P H b (l.toList.map (ev tm)) [] ats.toList
  | op => AM (evP P tm op) H
theorem Ht {o : Oper} {K : IV → A0 → Prop} {Qp : List PanicEntry → A0 → Prop} {t : TypeId} {x : Operand} {s : Prop} {r : IV} (ho : o.op = .load t x) (hok : okO N o = true)
    (h : ldX P H t (ev tm x) = some (s, r)) (hs : s) (hk : K r H) : Aj P N o tm H K Qp := by
 have alt : ldP P t (ev tm x) = some (s, r) → Aj P N o tm H K Qp := fun h => CF hok (by rw [ho]; exact h) hs hk; cases hx : ev tm x <;> rw [hx] at h alt
 case p k off => exact I1 ho hok (by rw [hx]; exact h) hs hk
 case pr k n off => exact I1 ho hok (by rw [hx]; exact h) hs hk
 all_goals exact alt h
theorem GJ {o : Oper} {K : IV → A0 → Prop} {Qp : List PanicEntry → A0 → Prop} {s : Prop} {r : IV} {H' : A0} (hok : okO N o = true) (h : efX P H tm o.op = some (s, r, H')) (hs : s) (hk : K r H') : Aj P N o tm H K Qp := by
 have pure' : AM (evP P tm o.op) H = some (s, r, H') → Aj P N o tm H K Qp := by
  intro h; unfold AM at h; split at h
  ·rename_i s' r' he; simp only [Option.some.injEq, Prod.mk.injEq] at h; obtain ⟨rfl, rfl, rfl⟩ := h; exact CF hok he hs hk
  ·cases h
 cases ho : o.op <;> rw [ho] at h pure'
 case alloc t =>
  simp only [efX, alX] at h; split at h
  ·rename_i z hz; split at h
   ·rename_i hone; simp only [Option.some.injEq, Prod.mk.injEq] at h; obtain ⟨_, rfl, rfl⟩ := h; exact KT ho hz hone hk
   ·cases h
  ·cases h
 case box t x =>
  simp only [efX, bxX] at h; split at h
  ·rename_i cs hc; simp only [Option.some.injEq, Prod.mk.injEq] at h; obtain ⟨_, rfl, rfl⟩ := h; exact NK ho hok hc hk
  ·cases h
 case load t x =>
  simp only [efX, AM] at h; split at h
  ·rename_i s' r' hl; simp only [Option.some.injEq, Prod.mk.injEq] at h; obtain ⟨rfl, rfl, rfl⟩ := h; exact Ht ho hok hl hs hk
  ·cases h
 case store t x y =>
  simp only [efX, stX] at h; split at h
  ·rename_i k off hx; split at h
   ·rename_i cs vc hk' hv; simp only [Option.some.injEq, Prod.mk.injEq] at h; obtain ⟨rfl, rfl, rfl⟩ := h; exact KV ho hok hx hk' hv hs.1 hs.2.1 hs.2.2 hk
   ·rename_i T cs vc hk' hv; simp only [Option.some.injEq, Prod.mk.injEq] at h; obtain ⟨rfl, rfl, rfl⟩ := h; exact K4 ho hok hx hk' hv hs.1 hs.2.1 hs.2.2 hk
   ·cases h
  ·rename_i k n off hx; split at h
   ·rename_i sz es vc hk' hv; simp only [Option.some.injEq, Prod.mk.injEq] at h; obtain ⟨rfl, rfl, rfl⟩ := h; exact K5 ho hok hx hk' hs.1 hv hs.2.1 hs.2.2.1 hs.2.2.2.1 hs.2.2.2.2 hk
   ·cases h
  ·cases h
 case indexAddr t x i =>
  simp only [efX, AM] at h; split at h
  ·rename_i s' r' hl; simp only [Option.some.injEq, Prod.mk.injEq] at h; obtain ⟨rfl, rfl, rfl⟩ := h; unfold ixX at hl; split at hl
   ·rename_i k n hx; split at hl
    ·rename_i e sz es kk m hu hk' hi; simp only [Option.some.injEq, Prod.mk.injEq] at hl; obtain ⟨rfl, rfl⟩ := hl; exact M7 ho hok hu hx hi hk' hs.1 hs.2.1 hs.2.2.1 hs.2.2.2 hk
    ·cases hl
   ·exact CF hok (by rw [ho]; exact hl) hs hk
  ·cases h
 case buildSlice t n ps =>
  cases n with
  | zero => exact pure' h
  | succ n =>
   simp only [efX, AM] at h; split at h
   ·rename_i s' r' hl; simp only [Option.some.injEq, Prod.mk.injEq] at h; obtain ⟨rfl, rfl, rfl⟩ := h; unfold bzI at hl; split at hl
    ·rename_i sz rs hb; simp only [Option.some.injEq, Prod.mk.injEq] at hl; obtain ⟨_, rfl⟩ := hl; exact DV ho hok hb hk
    ·cases hl
   ·cases h
 case lookup t x i k =>
  simp only [efX, AM] at h; split at h
  ·rename_i s' r' hl; simp only [Option.some.injEq, Prod.mk.injEq] at h; obtain ⟨rfl, rfl, rfl⟩ := h; exact G5 ho hok hl hs hk
  ·cases h
 case mapUpdate t x i y =>
  simp only [efX] at h; exact HJ ho hok h hs hk
 case insert t x i y =>
  simp only [efX] at h; exact K8 ho hok h hs hk
 case makeMap t m =>
  cases m with
  | none =>
   simp only [efX, Option.some.injEq, Prod.mk.injEq] at h; obtain ⟨rfl, rfl, rfl⟩ := h; exact Jc ho hk
  | some m => exact pure' h
 case call c =>
  obtain ⟨ce, l, ats⟩ := c; cases ce with
  | builtin b =>
   simp only [efX, cmX] at h; split at h
   ·rename_i x i t t' h1 h2; obtain ⟨ox, oi, rfl, rfl, rfl⟩ : ∃ ox oi, l = #[ox, oi] ∧ ev tm ox = x ∧ ev tm oi = i := by
     obtain ⟨l⟩ := l
     match l, h1 with
     | [p, q], h1 => simp at h1; exact ⟨p, q, rfl, h1.1, h1.2⟩
    have e2 : ats = #[t, t'] := Array.toList_inj.1 h2; subst e2; exact K9 ho hok h hs hk
   ·rename_i x t h1 h2; obtain ⟨ox, rfl, rfl⟩ : ∃ ox, l = #[ox] ∧ ev tm ox = x := by
     obtain ⟨l⟩ := l
     match l, h1 with
     | [p], h1 => simp at h1; exact ⟨p, rfl, h1⟩
    have e2 : ats = #[t] := Array.toList_inj.1 h2; subst e2; split at h
    ·rename_i s' r' hl; simp only [Option.some.injEq, Prod.mk.injEq] at h; obtain ⟨rfl, rfl, rfl⟩ := h; exact CF hok (by rw [ho]; exact hl) hs hk
    ·unfold AM at h; split at h
     ·rename_i s' r' hl; simp only [Option.some.injEq, Prod.mk.injEq] at h; obtain ⟨rfl, rfl, rfl⟩ := h; exact Ka ho hok hl hk
     ·cases h
   ·cases h
  | _ => exact pure' h
 all_goals exact pure' h
def splitB (x : IV) (K : Bool → Prop) : Prop :=
  match x with
  | .v (.bool c) => (c = true → K true) ∧ (c = false → K false)
  | _ => False
def D0 (x : IV) (K : Bool → Prop) (sk : Tm → Prop) (tm : Tm) : Prop :=
  match x with
  | .v (.bool c) => (c = true → K true) ∧ (c = false → K false)
  | .v _ => sk tm
  | _ => False
def D3 (c b : Bool) (x y : Prop) : Prop := if c = b then x else y
def BR (P : Program) (N : Nat) (o : Oper) (tm : Tm) (H : A0) (K : IV → A0 → Prop) (Qp : List PanicEntry → A0 → Prop) : Prop :=
  match o.op with
  | .call { callee := .value x, args, .. } => D2 (fnP (ev tm x)) (fun f cap => A2 P f (args.toList.map (ev tm) ++ cap) H (Ju K Qp)) (Aj P N o tm H K Qp)
  | .call { callee := .builtin .append, args, argTypes, .. } =>
    match args.toList, argTypes.toList with
    | [x, y], [t, t'] => Ar (apI P H t t' (ev tm x) (ev tm y)) K (Aj P N o tm H K Qp)
    | _, _ => Aj P N o tm H K Qp
  | .pick c a b => splitB (ev tm c) fun q => D3 q true (K (ev tm a) H) (K (ev tm b) H)
  | op => Ar (efX P H tm op) K (Aj P N o tm H K Qp)
theorem CH {o : Oper} {K : IV → A0 → Prop} {Qp : List PanicEntry → A0 → Prop} (hok : okO N o = true) (h : BR P N o tm H K Qp) : Aj P N o tm H K Qp := by
 unfold BR at h; split at h
 ·rename_i x args ats ho; unfold D2 at h; split at h
  ·rename_i f cap hf; exact Ie ho hok hf h
  ·exact h
 ·rename_i args ats ho; split at h
  ·rename_i x y t t' h1 h2; unfold Ar at h; split at h
   ·rename_i s r H' he; have e1 : args = #[x, y] := Array.toList_inj.1 h1; have e2 : ats = #[t, t'] := Array.toList_inj.1 h2; subst e1; subst e2; exact G1 ho hok he h.1 h.2
   ·exact h
  ·exact h
 ·rename_i c a b ho; unfold splitB at h; split at h
  ·rename_i q hq; cases q with
   | true =>
    have h2 := h.1 rfl; refine CF hok (i := ev tm a) (s := True) ?_ trivial (by simpa [D3] using h2); rw [ho]; simp [evP, hq]
   | false =>
    have h2 := h.2 rfl; refine CF hok (i := ev tm b) (s := True) ?_ trivial (by simpa [D3] using h2); rw [ho]; simp [evP, hq]
  ·exact h.elim
 ·unfold Ar at h; split at h
  ·rename_i s r H' he; exact GJ hok he h.1 h.2
  ·exact h
def vcG (full : Array Oper) (o : Oper) (tm : Tm) (run skip : Tm → Prop) : Prop :=
  match o.guard with
  | none => run tm
  | some (j, b) =>
    match (full[j]?).bind (·.dst) with
    | some d => D0 (tm d) (fun c => D3 c b (run (upd tm d (.v (.bool c)))) (skip (upd tm d (.v (.bool c))))) skip tm
    | none => False
def Cx (P : Program) (N : Nat) (full : Array Oper) : List Oper → (Exit → Tm → A0 → Prop) → Tm → A0 → Prop
  | [], Q, tm, H => Q .normal tm H
  | o :: l, Q, tm, H => vcG full o tm
      (fun tm => BR P N o tm H (fun x H' => Cx P N full l Q (Br tm o.dst x) H') (fun ch H' => Q (.panic ch) tm H'))
      (fun tm => Cx P N full l Q (Br tm o.dst (.v undef)) H)
theorem G6 {d : Nat} {x : IV} (h : tm d = x) : upd tm d x = tm := by
 funext i; unfold upd; split
 ·rename_i e; rw [e, h]
 ·rfl
theorem DE {full : Array Oper} (hok : full.toList.all (okO N) = true) {Q : Exit → Tm → A0 → Prop} : ∀ (l : List Oper) (i : Nat) (tm : Tm) (H : A0), (∀ (j : Nat) (o : Oper), l[j]? = some o → full[i + j]? = some o) →
    Cx P N full l Q tm H → FV P N full (List.range' i l.length) Q tm H
  | [], i, tm, H, _, h => FX h
  | o :: l, i, tm, H, hl, h => by
    have ho : full[i]? = some o := hl 0 o rfl
    have hl' : ∀ (j : Nat) (o : Oper), l[j]? = some o → full[i + 1 + j]? = some o := fun j o' h => by
      have := hl (j + 1) o' (by simpa using h)
      rwa [show i + (j + 1) = i + 1 + j by omega] at this
    have hall := List.all_eq_true.1 hok
    have hoo : okO N o = true := hall o (by rw [Array.mem_toList_iff]; exact Array.mem_of_getElem? ho)
    have run : (∀ (w : World) (g : Gs) (a : Act), RA w g a tm → a.tmps.size = N → Region.wanted o (yielded full a.tmps) = true) →
        BR P N o tm H (fun x H' => Cx P N full l Q (Br tm o.dst x) H') (fun ch H' => Q (.panic ch) tm H') → FV P N full (i :: List.range' (i + 1) l.length) Q tm H := fun hg h =>
      Dc ho hg ((CH hoo h).mono (fun x H' h => DE hok l (i + 1) _ _ hl' h) fun _ _ h => h)
    have skip : (∀ (w : World) (g : Gs) (a : Act), RA w g a tm → a.tmps.size = N → Region.wanted o (yielded full a.tmps) = false) →
        Cx P N full l Q (Br tm o.dst (.v undef)) H → FV P N full (i :: List.range' (i + 1) l.length) Q tm H := fun hg h =>
      Nv ho hg (DE hok l (i + 1) _ _ hl' h)
    show FV P N full (i :: List.range' (i + 1) l.length) Q tm H
    unfold Cx vcG at h
    split at h
    · rename_i hgd
      exact run (fun w g a r hN => by simp [Region.wanted, hgd]) h
    · rename_i j b hgd
      split at h
      · rename_i d hd
        have hdN : d < N := by
          rw [Option.bind_eq_some_iff] at hd
          obtain ⟨o', h1, h2⟩ := hd
          have := hall o' (by rw [Array.mem_toList_iff]; exact Array.mem_of_getElem? h1)
          simp only [okO, h2, Bool.and_eq_true, decide_eq_true_eq] at this
          exact this.2
        unfold D0 at h
        split at h
        · rename_i c hc
          have hy : ∀ (w : World) (g : Gs) (a : Act), RA w g a tm → a.tmps.size = N → yielded full a.tmps j = some c := by
            intro w g a r hN
            have h1 := r d (by rw [hN]; exact hdN)
            rw [hc] at h1
            have h2 := h1.v_eq
            have h3 : a.tmps[d]? = some (.bool c) := by
              have hlt : d < a.tmps.size := by rw [hN]; exact hdN
              rw [Array.getElem?_eq_getElem hlt]
              simpa [hlt] using h2
            simp [yielded, hd, h3]
          have hw : ∀ (w : World) (g : Gs) (a : Act), RA w g a tm → a.tmps.size = N → Region.wanted o (yielded full a.tmps) = (c == b) := by
            intro w g a r hN
            simp [Region.wanted, hgd, hy w g a r hN]
          have key : D3 c b (BR P N o tm H (fun x H' => Cx P N full l Q (Br tm o.dst x) H') (fun ch H' => Q (.panic ch) tm H')) (Cx P N full l Q (Br tm o.dst (.v undef)) H) := by
            cases c with
            | true =>
              have := h.1 rfl
              dsimp only at this
              rwa [G6 hc] at this
            | false =>
              have := h.2 rfl
              dsimp only at this
              rwa [G6 hc] at this
          unfold D3 at key
          split at key
          · rename_i e
            exact run (fun w g a r hN => by rw [hw w g a r hN]; simp [e]) key
          · rename_i e
            exact skip (fun w g a r hN => by rw [hw w g a r hN]; simp [e]) key
        · rename_i y hne hc
          refine skip (fun w g a r hN => ?_) h
          have h1 := r d (by rw [hN]; exact hdN)
          rw [hc] at h1
          have h2 := h1.v_eq
          have hlt : d < a.tmps.size := by rw [hN]; exact hdN
          have h3 : a.tmps[d]? = some y := by
            rw [Array.getElem?_eq_getElem hlt]
            simpa [hlt] using h2
          have h4 : yielded full a.tmps j = none := by
            simp only [yielded, hd, Option.bind_some, h3]
            split
            · rename_i c e
              cases e
              exact (hne c rfl).elim
            · rfl
          simp [Region.wanted, hgd, h4]
        · exact h.elim
      · exact h.elim
def K_ (x : IV) (a b : Prop) : Prop :=
  match x with
  | .v (.bool c) => (c = true → a) ∧ (c = false → b)
  | _ => False
def Mc (P : Program) (N : Nat) (c : Code) (Q : Exit → Tm → A0 → Prop) (tm : Tm) (H : A0) : Prop :=
  ∃ (I : Tm → A0 → Prop) (μ : Tm → A0 → Nat), UpI I tm H ∧ ∀ tm H, I tm H → IWp P N c (D9 (Up I μ (μ tm H)) Q) tm H
def vc (P : Program) (N : Nat) : Code → (Exit → Tm → A0 → Prop) → Tm → A0 → Prop
  | .skip, Q, tm, H => Q .normal tm H
  | .label _, Q, tm, H => Q .normal tm H
  | .exit id, Q, tm, H => Q (.exit id) tm H
  | .goto l, Q, tm, H => Q (.goto l) tm H
  | .ret, Q, tm, H => Q .ret tm H
  | .seq a b, Q, tm, H => vc P N a (D9 (vc P N b Q) Q) tm H
  | .region id ops draw, Q, tm, H => match draw with | true => IWp P N (.region id ops true) Q tm H | false => Cx P N ops ops.toList Q tm H
  | .cond c x y, Q, tm, H => K_ (ev tm c) (vc P N x Q tm H) (vc P N y Q tm H)
  | .block id c, Q, tm, H => vc P N c (Da id Q) tm H
  | .loop c, Q, tm, H => Mc P N c Q tm H
  | c, Q, tm, H => IWp P N c Q tm H
def HK (N : Nat) : Code → Bool
  | .seq a b => HK N a && HK N b
  | .region _ ops draw => match draw with | true => true | false => ops.toList.all (okO N)
  | .cond c x y => opd N c && HK N x && HK N y
  | .block _ c => HK N c
  | .loop c => HK N c
  | _ => true
theorem AK : ∀ (c : Code), HK N c = true → ∀ (Q : Exit → Tm → A0 → Prop) (tm : Tm) (H : A0), vc P N c Q tm H → IWp P N c Q tm H
  | .skip, _, Q, tm, H, h => Ot h
  | .label _, _, Q, tm, H, h => Nu h
  | .exit _, _, Q, tm, H, h => Ou h
  | .goto _, _, Q, tm, H, h => Ov h
  | .ret, _, Q, tm, H, h => Qh h
  | .seq a b, hf, Q, tm, H, h => by
    simp only [HK, Bool.and_eq_true] at hf
    refine JZ ((AK a hf.1 _ tm H h).mono fun e tm' H' q => ?_)
    cases e with
    | normal => exact AK b hf.2 Q tm' H' q
    | _ => exact q
  | .region id ops true, _, Q, tm, H, h => h
  | .region id ops false, hf, Q, tm, H, h => by
    refine E3 ?_
    have := DE (full := ops) hf ops.toList 0 tm H (fun j o ho => by simpa using ho) h
    rwa [List.range_eq_range', ← Array.length_toList]
  | .cond c x y, hf, Q, tm, H, h => by
    simp only [HK, Bool.and_eq_true] at hf
    unfold vc K_ at h
    split at h
    · rename_i b hb
      exact FU hb hf.1.1 (fun e => AK x hf.1.2 Q tm H (h.1 e)) (fun e => AK y hf.2 Q tm H (h.2 e))
    · exact h.elim
  | .block id c, hf, Q, tm, H, h => Ag (AK c hf _ tm H h)
  | .loop c, hf, Q, tm, H, ⟨I, μ, h0, h1⟩ => NM I μ h0 h1
  | .rangeFunc .., _, Q, tm, H, h => h
  | .scope _, _, Q, tm, H, h => h
  | .refuse _, _, Q, tm, H, h => h
theorem Kb {f : FuncId} {fn : Func} {c : Code} {args : List IV} {Q : An → A0 → Prop} (hf : P.funcs[f]? = some fn) (hbd : Bq P f = true) (hb : fn.body = some c) (hN : fn.ntmps = N)
    (hn : (args.length ≤ N ∧ fn.results.toList.all (rvN N) = true ∧ HK N c = true))
    (h : H.Wf → vc P N c (M8 P fn.results.toList H Q) (tm0 args) H) : A2 P f args H Q := by
 subst hN; exact Fl hbd hf hb hn.1 hn.2.1 fun hw => AK c hn.2.2 _ _ _ (h hw)
end Go.Idl
namespace Go.Idl
open Go Go.RowKit
variable {P : Program} {N : Nat} {tm : Tm} {H : A0}
def Jv (x : IV) (a b : Tm → A0 → Prop) (tm : Tm) (H : A0) : Prop := K_ x (a tm H) (b tm H)
def N6 (P : Program) (N : Nat) (full : Array Oper) (l : List Oper) (Q : Exit → Tm → A0 → Prop) (d : Option Tmp) (tm : Tm) : IV → A0 → Prop := fun x H' => Cx P N full l Q (Br tm d x) H'
def Kc (Q : Exit → Tm → A0 → Prop) (tm : Tm) : List PanicEntry → A0 → Prop := fun ch H' => Q (.panic ch) tm H'
def Sn (P : Program) (N : Nat) (full : Array Oper) (o : Oper) (l : List Oper) (Q : Exit → Tm → A0 → Prop) (H : A0) : Tm → Prop := fun tm => BR P N o tm H (N6 P N full l Q o.dst tm) (Kc Q tm)
def OG (P : Program) (N : Nat) (full : Array Oper) (d : Option Tmp) (l : List Oper) (Q : Exit → Tm → A0 → Prop) (H : A0) : Tm → Prop := fun tm => Cx P N full l Q (Br tm d (.v undef)) H
def DO (b : Bool) (d : Tmp) (tm : Tm) (run skip : Tm → Prop) : Bool → Prop := fun c => D3 c b (run (upd tm d (.v (.bool c)))) (skip (upd tm d (.v (.bool c))))
def L0 (K : IV → A0 → Prop) (x y : IV) (H : A0) : Bool → Prop := fun q => D3 q true (K x H) (K y H)
def L1 (P : Program) (args : List IV) (H : A0) (K : IV → A0 → Prop) (Qp : List PanicEntry → A0 → Prop) : FuncId → List IV → Prop := fun f cap => A2 P f (args ++ cap) H (Ju K Qp)
section
variable {Q : Exit → Tm → A0 → Prop}
@[go_sem] theorem WM : vc P N .skip Q tm H = Q .normal tm H := rfl
@[go_sem] theorem VA {l : Nat} : vc P N (.label l) Q tm H = Q .normal tm H := rfl
@[go_sem] theorem WN {l : Nat} : vc P N (.exit l) Q tm H = Q (.exit l) tm H := rfl
@[go_sem] theorem WO {l : Nat} : vc P N (.goto l) Q tm H = Q (.goto l) tm H := rfl
@[go_sem] theorem XK : vc P N .ret Q tm H = Q .ret tm H := rfl
@[go_sem] theorem XL {a b : Code} : vc P N (.seq a b) Q tm H = vc P N a (D9 (vc P N b Q) Q) tm H := rfl
@[go_sem] theorem UG {id : Nat} {l : List Oper} : vc P N (.region id ⟨l⟩ false) Q tm H = Cx P N ⟨l⟩ l Q tm H := rfl
@[go_sem] theorem WQ {id : Nat} {l : Array Oper} : vc P N (.region id l true) Q tm H = IWp P N (.region id l true) Q tm H := rfl
@[go_sem] theorem WR {c : Operand} {x y : Code} : vc P N (.cond c x y) Q tm H = Jv (ev tm c) (vc P N x Q) (vc P N y Q) tm H := rfl
@[go_sem] theorem VB {id : Nat} {c : Code} : vc P N (.block id c) Q tm H = vc P N c (Da id Q) tm H := rfl
@[go_sem] theorem WS {c : Code} : vc P N (.loop c) Q tm H = Mc P N c Q tm H := rfl
@[go_sem] theorem Qq {f : Operand} {ps : Array Tmp} {a b : Code} : vc P N (.rangeFunc f ps a b) Q tm H = IWp P N (.rangeFunc f ps a b) Q tm H := rfl
@[go_sem] theorem VC {c : Code} : vc P N (.scope c) Q tm H = IWp P N (.scope c) Q tm H := rfl
variable {K : Tm → A0 → Prop}
@[go_sem] theorem Qr : D9 K Q .normal tm H = K tm H := rfl
@[go_sem] theorem Sq {l : Nat} : D9 K Q (.exit l) tm H = Q (.exit l) tm H := rfl
@[go_sem] theorem Sr {l : Nat} : D9 K Q (.goto l) tm H = Q (.goto l) tm H := rfl
@[go_sem] theorem UH : D9 K Q .ret tm H = Q .ret tm H := rfl
@[go_sem] theorem RD {c : List PanicEntry} : D9 K Q (.panic c) tm H = Q (.panic c) tm H := rfl
@[go_sem] theorem Qc {id : Nat} : Da id Q .normal tm H = Q .normal tm H := rfl
@[go_sem] theorem RF {id : Nat} : Da id Q (.exit id) tm H = Q .normal tm H := by simp [Da]
@[go_sem] theorem RG {id l : Nat} : Da id Q (.goto l) tm H = Q (.goto l) tm H := rfl
@[go_sem] theorem Ss {id : Nat} : Da id Q .ret tm H = Q .ret tm H := rfl
@[go_sem] theorem Qs {id : Nat} {c : List PanicEntry} : Da id Q (.panic c) tm H = Q (.panic c) tm H := rfl
@[go_sem] theorem UI {full : Array Oper} : Cx P N full [] Q tm H = Q .normal tm H := rfl
@[go_sem] theorem St {full : Array Oper} {d : Option Tmp} {op : Op} {t : TypeId} {p : String} {af : Array Edge} {l : List Oper} :
    Cx P N full (⟨d, op, t, p, af, none⟩ :: l) Q tm H = BR P N ⟨d, op, t, p, af, none⟩ tm H (N6 P N full l Q d tm) (Kc Q tm) := rfl
@[go_sem] theorem UJ {full : Array Oper} {l : List Oper} {d : Option Tmp} {x : IV} : N6 P N full l Q d tm x H = Cx P N full l Q (Br tm d x) H := rfl
@[go_sem] theorem VD {c : List PanicEntry} : Kc Q tm c H = Q (.panic c) tm H := rfl
def L2 (l : List Oper) (j : Nat) : Option Tmp := (l[j]?).bind (·.dst)
def vcH (d : Option Tmp) (b : Bool) (tm : Tm) (run skip : Tm → Prop) : Prop :=
  match d with
  | some d => D0 (tm d) (DO b d tm run skip) skip tm
  | none => False
@[go_sem] theorem RH {full : List Oper} {d : Option Tmp} {op : Op} {t : TypeId} {p : String} {af : Array Edge} {j : Nat} {b : Bool} {l : List Oper} :
    Cx P N ⟨full⟩ (⟨d, op, t, p, af, some (j, b)⟩ :: l) Q tm H = vcH (L2 full j) b tm (Sn P N ⟨full⟩ ⟨d, op, t, p, af, some (j, b)⟩ l Q H) (OG P N ⟨full⟩ d l Q H) := by
 show vcG ⟨full⟩ ⟨d, op, t, p, af, some (j, b)⟩ tm (Sn P N ⟨full⟩ ⟨d, op, t, p, af, some (j, b)⟩ l Q H) (OG P N ⟨full⟩ d l Q H) = vcH ((full[j]?).bind (·.dst)) b tm _ _; unfold vcG vcH; simp only [List.getElem?_toArray]; cases (full[j]?).bind (·.dst) <;> rfl
@[go_sem] theorem VE {full : Array Oper} {o : Oper} {l : List Oper} : Sn P N full o l Q H tm = BR P N o tm H (N6 P N full l Q o.dst tm) (Kc Q tm) := rfl
@[go_sem] theorem UK {full : Array Oper} {d : Option Tmp} {l : List Oper} : OG P N full d l Q H tm = Cx P N full l Q (Br tm d (.v undef)) H := rfl
end
@[go_sem] theorem Su {o : Oper} {l : List Oper} : L2 (o :: l) 0 = o.dst := rfl
@[go_sem] theorem Sv {o : Oper} {l : List Oper} {j : Nat} : L2 (o :: l) (j + 1) = L2 l j := rfl
@[go_sem] theorem VF {d : Tmp} {b : Bool} {run skip : Tm → Prop} : vcH (some d) b tm run skip = D0 (tm d) (DO b d tm run skip) skip tm := rfl
@[go_sem] theorem UL {d : Tmp} {run skip : Tm → Prop} : DO true d tm run skip true = run (upd tm d (.v (.bool true))) := by simp [DO, D3]
@[go_sem] theorem UM {d : Tmp} {run skip : Tm → Prop} : DO true d tm run skip false = skip (upd tm d (.v (.bool false))) := by simp [DO, D3]
@[go_sem] theorem UN {d : Tmp} {run skip : Tm → Prop} : DO false d tm run skip true = skip (upd tm d (.v (.bool true))) := by simp [DO, D3]
@[go_sem] theorem UO {d : Tmp} {run skip : Tm → Prop} : DO false d tm run skip false = run (upd tm d (.v (.bool false))) := by simp [DO, D3]
@[go_sem] theorem Sw {K : IV → A0 → Prop} {x y : IV} : L0 K x y H true = K x H := by simp [L0, D3]
@[go_sem] theorem RI {K : IV → A0 → Prop} {x y : IV} : L0 K x y H false = K y H := by simp [L0, D3]
@[go_sem] theorem UP {args cap : List IV} {K : IV → A0 → Prop} {Qp : List PanicEntry → A0 → Prop} {f : FuncId} : L1 P args H K Qp f cap = A2 P f (args ++ cap) H (Ju K Qp) := rfl
@[go_sem] theorem RJ {K : Bool → Prop} {sk : Tm → Prop} : D0 (.v (.bool true)) K sk tm = K true := by simp [D0]
@[go_sem] theorem Qt {K : Bool → Prop} {sk : Tm → Prop} : D0 (.v (.bool false)) K sk tm = K false := by simp [D0]
@[go_sem] theorem Qu {K : Bool → Prop} {sk : Tm → Prop} : D0 (.v undef) K sk tm = sk tm := rfl
theorem G7 {c : Bool} {K : Bool → Prop} {sk : Tm → Prop} (h1 : c = true → K true) (h2 : c = false → K false) : D0 (.v (.bool c)) K sk tm := ⟨h1, h2⟩
@[go_sem] theorem RM {K : Bool → Prop} : splitB (.v (.bool true)) K = K true := by simp [splitB]
@[go_sem] theorem Qv {K : Bool → Prop} : splitB (.v (.bool false)) K = K false := by simp [splitB]
@[go_sem] theorem Sx {a b : Tm → A0 → Prop} : Jv (.v (.bool true)) a b tm H = a tm H := by simp [Jv, K_]
@[go_sem] theorem RN {a b : Tm → A0 → Prop} : Jv (.v (.bool false)) a b tm H = b tm H := by simp [Jv, K_]
@[go_sem] theorem Sy {s : Prop} {r : IV} {K : IV → A0 → Prop} {alt : Prop} : Ar (some (s, r, H)) K alt = (s ∧ K r H) := rfl
@[go_sem] theorem Sz {K : IV → A0 → Prop} {alt : Prop} : Ar none K alt = alt := rfl
@[go_sem] theorem SA {f : FuncId} {cap : List IV} {A : FuncId → List IV → Prop} {alt : Prop} : D2 (some (f, cap)) A alt = A f cap := rfl
@[go_sem] theorem SB {A : FuncId → List IV → Prop} {alt : Prop} : D2 none A alt = alt := rfl
@[go_sem] theorem SC {s : Prop} {r : IV} : AM (some (s, r)) H = some (s, r, H) := rfl
@[go_sem] theorem SD : AM none H = none := rfl
@[go_sem] theorem UQ {K : IV → A0 → Prop} {Qp : List PanicEntry → A0 → Prop} {r : IV} : Ju K Qp (.ret r) H = K r H := rfl
@[go_sem] theorem UR {K : IV → A0 → Prop} {Qp : List PanicEntry → A0 → Prop} {c : List PanicEntry} : Ju K Qp (.pan c) H = Qp c H := rfl
@[go_sem] theorem US {d : Nat} {x : IV} : Br tm (some d) x = upd tm d x := rfl
@[go_sem] theorem UT {x : IV} : Br tm none x = tm := rfl
@[go_sem] theorem WT {d i : Nat} {x : IV} : upd tm d x i = if i = d then x else tm i := rfl
@[go_sem] theorem XM {t : Tmp} : ev tm (.tmp t) = tm t := rfl
@[go_sem] theorem VG {x : Value} : ev tm (.const x) = .v x := rfl
@[go_sem] theorem WU {f : FuncId} : ev tm (.func f) = .v (.func (.func f) #[] #[]) := rfl
@[go_sem] theorem UU {g : Nat} : ev tm (.global g) = .v (.pointer (some ⟨g, 0, none⟩)) := rfl
section
variable {d : Option Tmp} {t : TypeId} {p : String} {af : Array Edge} {gd : Option (Nat × Bool)} {K : IV → A0 → Prop} {Qp : List PanicEntry → A0 → Prop}
@[go_sem] theorem UW {x : Operand} {l : List Operand} {ats : Array TypeId} : BR P N ⟨d, .call ⟨.value x, ⟨l⟩, ats⟩, t, p, af, gd⟩ tm H K Qp =
    D2 (fnP (ev tm x)) (L1 P (l.map (ev tm)) H K Qp) (Aj P N ⟨d, .call ⟨.value x, ⟨l⟩, ats⟩, t, p, af, gd⟩ tm H K Qp) := rfl
@[go_sem] theorem RP {x y : Operand} {a b : TypeId} : BR P N ⟨d, .call ⟨.builtin .append, #[x, y], #[a, b]⟩, t, p, af, gd⟩ tm H K Qp =
    Ar (apI P H a b (ev tm x) (ev tm y)) K (Aj P N ⟨d, .call ⟨.builtin .append, #[x, y], #[a, b]⟩, t, p, af, gd⟩ tm H K Qp) := rfl
def Qw (a b : Option (Prop × IV)) : Option (Prop × IV) := match a with | some r => some r | none => b
@[go_sem] theorem UX {p : Prop × IV} {b : Option (Prop × IV)} : Qw (some p) b = some p := rfl
@[go_sem] theorem UY {b : Option (Prop × IV)} : Qw none b = b := rfl
@[go_sem] theorem VH {x : Operand} {a : TypeId} : BR P N ⟨d, .call ⟨.builtin .len, #[x], #[a]⟩, t, p, af, gd⟩ tm H K Qp =
    Ar (AM (Qw (Er (P.underlying a) (ev tm x)) (lnX P H a (ev tm x))) H) K (Aj P N ⟨d, .call ⟨.builtin .len, #[x], #[a]⟩, t, p, af, gd⟩ tm H K Qp) := by
 show Ar (cmX P H .len [ev tm x] [] [a]) K _ = _; congr 1; unfold cmX Qw; simp only; cases Er (P.underlying a) (ev tm x) <;> rfl
@[go_sem] theorem RQ {x y : Operand} {a b : TypeId} : BR P N ⟨d, .call ⟨.builtin .delete, #[x, y], #[a, b]⟩, t, p, af, gd⟩ tm H K Qp =
    Ar (dlX P H a (ev tm x) (ev tm y)) K (Aj P N ⟨d, .call ⟨.builtin .delete, #[x, y], #[a, b]⟩, t, p, af, gd⟩ tm H K Qp) := rfl
@[go_sem] theorem RR {x y : Operand} {a : TypeId} {ok : Bool} : BR P N ⟨d, .lookup a x y ok, t, p, af, gd⟩ tm H K Qp =
    Ar (AM (lkX P H a (ev tm x) (ev tm y) ok) H) K (Aj P N ⟨d, .lookup a x y ok, t, p, af, gd⟩ tm H K Qp) := rfl
@[go_sem] theorem OH {x y z : Operand} {a : TypeId} : BR P N ⟨d, .mapUpdate a x y z, t, p, af, gd⟩ tm H K Qp =
    Ar (muX P H a (ev tm x) (ev tm y) (ev tm z)) K (Aj P N ⟨d, .mapUpdate a x y z, t, p, af, gd⟩ tm H K Qp) := rfl
@[go_sem] theorem RS {x y z : Operand} {a : TypeId} : BR P N ⟨d, .insert a x y z, t, p, af, gd⟩ tm H K Qp =
    Ar (muX P H a (ev tm x) (ev tm y) (ev tm z)) K (Aj P N ⟨d, .insert a x y z, t, p, af, gd⟩ tm H K Qp) := rfl
@[go_sem] theorem Qx {a : TypeId} : BR P N ⟨d, .makeMap a none, t, p, af, gd⟩ tm H K Qp =
    Ar (some (True, .mp H.next, H.new (.map []))) K (Aj P N ⟨d, .makeMap a none, t, p, af, gd⟩ tm H K Qp) := rfl
@[go_sem] theorem UZ {x : Operand} : BR P N ⟨d, .move x, t, p, af, gd⟩ tm H K Qp = K (ev tm x) H := true_and _
@[go_sem] theorem RT {x : Operand} : BR P N ⟨d, .assign x, t, p, af, gd⟩ tm H K Qp = K (ev tm x) H := true_and _
@[go_sem] theorem SE {a : TypeId} : BR P N ⟨d, .alloc a, t, p, af, gd⟩ tm H K Qp = Ar (alX P H a) K (Aj P N ⟨d, .alloc a, t, p, af, gd⟩ tm H K Qp) := rfl
@[go_sem] theorem VI {a : TypeId} {x : Operand} : BR P N ⟨d, .box a x, t, p, af, gd⟩ tm H K Qp = Ar (bxX H (ev tm x)) K (Aj P N ⟨d, .box a x, t, p, af, gd⟩ tm H K Qp) := rfl
@[go_sem] theorem U_ {a : TypeId} {x : Operand} : BR P N ⟨d, .load a x, t, p, af, gd⟩ tm H K Qp = Ar (AM (ldX P H a (ev tm x)) H) K (Aj P N ⟨d, .load a x, t, p, af, gd⟩ tm H K Qp) := rfl
@[go_sem] theorem SF {a : TypeId} {x y : Operand} : BR P N ⟨d, .store a x y, t, p, af, gd⟩ tm H K Qp = Ar (stX P H a (ev tm x) (ev tm y)) K (Aj P N ⟨d, .store a x y, t, p, af, gd⟩ tm H K Qp) := rfl
@[go_sem] theorem OI {a : TypeId} {x y : Operand} : BR P N ⟨d, .indexAddr a x y, t, p, af, gd⟩ tm H K Qp = Ar (AM (ixX P H a (ev tm x) (ev tm y)) H) K (Aj P N ⟨d, .indexAddr a x y, t, p, af, gd⟩ tm H K Qp) := rfl
@[go_sem] theorem V0 {c a b : Operand} : BR P N ⟨d, .pick c a b, t, p, af, gd⟩ tm H K Qp = splitB (ev tm c) (L0 K (ev tm a) (ev tm b) H) := rfl
@[go_sem] theorem SG {a : TypeId} {l : List (Nat × Operand)} : BR P N ⟨d, .build a ⟨l⟩, t, p, af, gd⟩ tm H K Qp = Ar (AM (bdP P a (l.map fun q => (q.1, ev tm q.2))) H) K (Aj P N ⟨d, .build a ⟨l⟩, t, p, af, gd⟩ tm H K Qp) := rfl
@[go_sem] theorem VJ {n sz : Nat} {rs : List IV} : bzI n (some (sz, rs)) = some (True, .sl sz (chunks sz n rs)) := rfl
@[go_sem] theorem Oi {a : TypeId} {n : Nat} {l : List (Nat × Operand)} : BR P N ⟨d, .buildSlice a (n + 1) ⟨l⟩, t, p, af, gd⟩ tm H K Qp = Ar (AM (bzI (n + 1) (bsI P a (n + 1) (l.map fun q => (q.1, ev tm q.2)))) H) K (Aj P N ⟨d, .buildSlice a (n + 1) ⟨l⟩, t, p, af, gd⟩ tm H K Qp) := rfl
@[go_sem] theorem Oj {a : TypeId} {l : List (Nat × Operand)} : BR P N ⟨d, .buildSlice a 0 ⟨l⟩, t, p, af, gd⟩ tm H K Qp = Aj P N ⟨d, .buildSlice a 0 ⟨l⟩, t, p, af, gd⟩ tm H K Qp := rfl
@[go_sem] theorem Qd {x : Operand} : BR P N ⟨d, .nilCheck x, t, p, af, gd⟩ tm H K Qp = Ar (AM (ncP (ev tm x)) H) K (Aj P N ⟨d, .nilCheck x, t, p, af, gd⟩ tm H K Qp) := rfl
@[go_sem] theorem SH {op : BinOp} {a b : TypeId} {x y : Operand} : BR P N ⟨d, .binOp op a x y b, t, p, af, gd⟩ tm H K Qp = Ar (AM (M4 P op a tm x y) H) K (Aj P N ⟨d, .binOp op a x y b, t, p, af, gd⟩ tm H K Qp) := rfl
@[go_sem] theorem V1 {op : UnOp} {a : TypeId} {x : Operand} : BR P N ⟨d, .unOp op a x, t, p, af, gd⟩ tm H K Qp = Ar (AM (unP op (ev tm x)) H) K (Aj P N ⟨d, .unOp op a x, t, p, af, gd⟩ tm H K Qp) := rfl
@[go_sem] theorem Qy {a b : TypeId} {x : Operand} : BR P N ⟨d, .convert a b x, t, p, af, gd⟩ tm H K Qp = Ar (AM (cvP P a b (ev tm x)) H) K (Aj P N ⟨d, .convert a b x, t, p, af, gd⟩ tm H K Qp) := rfl
@[go_sem] theorem Md {a : TypeId} {x : Operand} : BR P N ⟨d, .makeInterface a x, t, p, af, gd⟩ tm H K Qp = Ar (AM (mkP P a (ev tm x)) H) K (Aj P N ⟨d, .makeInterface a x, t, p, af, gd⟩ tm H K Qp) := rfl
@[go_sem] theorem Qe {f : Fn} {x y : List Operand} : BR P N ⟨d, .makeFunc f ⟨x⟩ ⟨y⟩, t, p, af, gd⟩ tm H K Qp = K (.fn f (x.map (ev tm)) (y.map (ev tm))) H := true_and _
@[go_sem] theorem SI {a : TypeId} {x : Operand} {lo hi mx : Option Operand} : BR P N ⟨d, .slice a x lo hi mx, t, p, af, gd⟩ tm H K Qp =
    Ar (AM (slP P (P.underlying a) (ev tm x) (lo.map (ev tm)) (hi.map (ev tm)) (mx.map (ev tm))) H) K (Aj P N ⟨d, .slice a x lo hi mx, t, p, af, gd⟩ tm H K Qp) := rfl
@[go_sem] theorem OJ {a : TypeId} {x : Operand} {f : Nat} : BR P N ⟨d, .fieldAddr a x f, t, p, af, gd⟩ tm H K Qp = Ar (AM (fdP P (P.underlying a) (ev tm x) f) H) K (Aj P N ⟨d, .fieldAddr a x f, t, p, af, gd⟩ tm H K Qp) := rfl
@[go_sem] theorem SJ {a : TypeId} {x : Operand} {f : Nat} : BR P N ⟨d, .field a x f, t, p, af, gd⟩ tm H K Qp = Ar (AM (fvP P (P.underlying a) (ev tm x) f) H) K (Aj P N ⟨d, .field a x f, t, p, af, gd⟩ tm H K Qp) := rfl
@[go_sem] theorem SK {a : TypeId} {x y : Operand} : BR P N ⟨d, .index a x y, t, p, af, gd⟩ tm H K Qp = Ar (AM (ivP P (P.underlying a) (ev tm x) (ev tm y)) H) K (Aj P N ⟨d, .index a x y, t, p, af, gd⟩ tm H K Qp) := rfl
@[go_sem] theorem Qz {x : Operand} {n : Nat} : BR P N ⟨d, .extract x n, t, p, af, gd⟩ tm H K Qp = Ar (AM (exP (ev tm x) n) H) K (Aj P N ⟨d, .extract x n, t, p, af, gd⟩ tm H K Qp) := rfl
end
@[go_sem] theorem WV {i : Nat} : tm0 [] i = .v undef := by simp [tm0]
@[go_sem] theorem VK {x : IV} {l : List IV} : tm0 (x :: l) 0 = x := rfl
@[go_sem] theorem VL {x : IV} {l : List IV} {i : Nat} : tm0 (x :: l) (i + 1) = tm0 l i := by simp [tm0]
section
@[go_sem] theorem V2 {cs : List IV} : AD (.ag cs) = some cs := rfl
@[go_sem] theorem V3 {sz : Nat} {es : List (List IV)} : AD (.sl sz es) = some [.sl sz es] := rfl
@[go_sem] theorem V4 {cs : List IV} : AD (.cp cs) = some [.cp cs] := rfl
@[go_sem] theorem V5 {f : Fn} {a b : List IV} : AD (.fn f a b) = some [.fn f a b] := rfl
@[go_sem] theorem SL {t : TypeId} {x : IV} : AD (.ifc t x) = some [.ifc t x] := rfl
@[go_sem] theorem VM {k o : Nat} : AD (.p k o) = some [.p k o] := rfl
@[go_sem] theorem V6 {k : Nat} : AD (.mp k) = some [.mp k] := rfl
@[go_sem] theorem V7 {k n : Nat} : AD (.os k n) = some [.os k n] := rfl
@[go_sem] theorem V8 {k n o : Nat} : AD (.pr k n o) = some [.pr k n o] := rfl
@[go_sem] theorem V9 {k n o : Nat} : AD (.bs k o n) = some [.bs k o n] := rfl
@[go_sem] theorem SM {k : IntKind} {n : Int} : AD (.v (.int k n)) = some [.v (.int k n)] := rfl
@[go_sem] theorem RU {b : Bool} : AD (.v (.bool b)) = some [.v (.bool b)] := rfl
@[go_sem] theorem SN {s : ByteArray} : AD (.v (.string s)) = some [.v (.string s)] := rfl
@[go_sem] theorem QA {a : Option Addr} {n c : Nat} : AD (.v (.slice a n c)) = some [.v (.slice a n c)] := rfl
@[go_sem] theorem SO {a : Option Addr} : AD (.v (.pointer a)) = some [.v (.pointer a)] := rfl
@[go_sem] theorem SP {a : Option Nat} : AD (.v (.map a)) = some [.v (.map a)] := rfl
@[go_sem] theorem RV {f : Fn} {a b : Array Value} : AD (.v (.func f a b)) = some [.v (.func f a b)] := rfl
@[go_sem] theorem OK  : AD (.v .nilFunc) = some [.v .nilFunc] := rfl
@[go_sem] theorem QB {t : TypeId} {x : Value} : AD (.v (.iface t x)) = some [.v (.iface t x)] := rfl
@[go_sem] theorem Ol  : AD (.v .nilIface) = some [.v .nilIface] := rfl
@[go_sem] theorem SQ {xs : Array Value} : AD (.v (.agg xs)) = if xs.toList.all (·.oneCell') = true then some (xs.toList.map .v) else none := rfl
end
attribute [go_sem] tyB tyR
attribute [go_sem] Value.oneCell' bsI El rep Value.cells chunks
attribute [go_sem] M4 ldX ldN ldH ldP stX ixX ixP alX bxX fdP fvP ivP Er Ow shI Qi Qj unP cvP ncP exP mkP slP Fb KP K3 apI M6 elI DK CV fnP GA
section
variable {P : Program} {op : BinOp} {t : TypeId}
@[go_sem] theorem XN {a b : Value} : HX P op t (.v a) (.v b) = (match Ow P op t a b with | some (s, r) => some (s, .v r) | none => none) := rfl
@[go_sem] theorem XO {k off : Nat} : HX P op t (.p k off) (.v (.pointer none)) = (match P.underlying t with
    | some (.pointer _) => match op with | .eql => some (True, .v (.bool false)) | .neq => some (True, .v (.bool true)) | _ => none
    | _ => none) := rfl
@[go_sem] theorem WW {cs : List IV} : HX P op t (.cp cs) (.v (.pointer none)) = (match P.underlying t with
    | some (.pointer _) => match op with | .eql => some (True, .v (.bool false)) | .neq => some (True, .v (.bool true)) | _ => none
    | _ => none) := rfl
@[go_sem] theorem WX {k : Nat} : HX P op t (.mp k) (.v (.map none)) = (match P.underlying t with
    | some (.map _ _) => match op with | .eql => some (True, .v (.bool false)) | .neq => some (True, .v (.bool true)) | _ => none
    | _ => none) := rfl
@[go_sem] theorem WY {f : Fn} {a b : List IV} : HX P op t (.fn f a b) (.v .nilFunc) = (match P.underlying t with
    | some (.func _ _ _) => match op with | .eql => some (True, .v (.bool false)) | .neq => some (True, .v (.bool true)) | _ => none
    | _ => none) := rfl
@[go_sem] theorem WZ {sz : Nat} {es : List (List IV)} {y : IV} : HX P op t (.sl sz es) y = none := by cases y <;> rfl
@[go_sem] theorem W_ {a b c d : List UInt8} : HX P op t (.ag [.v (str a), .v (str b)]) (.ag [.v (str c), .v (str d)]) = (match P.underlying t with
    | some (.struct fs) =>
      match fs.toList with
      | [f1, f2] => match op with
        | .eql => some (P.underlying f1.type = some .string ∧ P.underlying f2.type = some .string ∧ f1.offset = 0 ∧ ¬ f1.name = "_" ∧ f2.offset = 1 ∧ ¬ f2.name = "_" ∧ P.stoodInHeld t = false ∧ P.eqGuardType P.depth t = false, .v (.bool (decide (a = c ∧ b = d))))
        | .neq => some (P.underlying f1.type = some .string ∧ P.underlying f2.type = some .string ∧ f1.offset = 0 ∧ ¬ f1.name = "_" ∧ f2.offset = 1 ∧ ¬ f2.name = "_" ∧ P.stoodInHeld t = false ∧ P.eqGuardType P.depth t = false, .v (.bool (!decide (a = c ∧ b = d))))
        | _ => none
      | _ => none
    | _ => none) := by
  simp only [HX, agE, str, Ck]
  cases P.underlying t with
  | none => rfl
  | some d =>
    cases d <;> try rfl
    rename_i fs
    simp only
    rcases fs.toList with _ | ⟨f1, _ | ⟨f2, _ | ⟨f3, l⟩⟩⟩ <;> first | rfl | (cases op <;> rfl)
end
attribute [go_sem] Nw
@[go_sem] theorem Va : AI True = True := by simp [AI]
theorem D4 {c : Bool} {a b : Tm → A0 → Prop} (h1 : c = true → a tm H) (h2 : c = false → b tm H) : Jv (.v (.bool c)) a b tm H := ⟨h1, h2⟩
theorem HP {c : Bool} {K : Bool → Prop} (h1 : c = true → K true) (h2 : c = false → K false) : splitB (.v (.bool c)) K := ⟨h1, h2⟩
theorem GK {c : Code} {Q : Exit → Tm → A0 → Prop} (I : Tm → A0 → Prop) (μ : Tm → A0 → Nat) (h0 : UpI I tm H)
    (h : ∀ I' μ', I' = I → μ' = μ → ∀ tm H, I tm H → IWp P N c (D9 (Up I' μ' (μ tm H)) Q) tm H) : Mc P N c Q tm H := ⟨I, μ, h0, h I μ rfl rfl⟩
theorem Up.of {I I' : Tm → A0 → Prop} {μ μ' : Tm → A0 → Nat} {m : Nat} (hI : I' = I) (hμ : μ' = μ) (h : I tm H) (hm : μ tm H < m) : Up I' μ' m tm H := by
 subst hI; subst hμ; exact .same h hm
def Me (x : Option (Prop × List IV)) (H0 : A0) (Q : An → A0 → Prop) (H : A0) : Prop :=
  match x with
  | some (s, is) => s ∧ KY (KX is) H0 Q H
  | none => False
section
variable {H0 : A0} {rs : List ResultVar} {Q : An → A0 → Prop}
theorem HQ : K7 P rs H0 Q tm H = Me (GH P H tm rs) H0 Q H := by
 unfold Me K7; cases GH P H tm rs with
 | none => simp
 | some x =>
  obtain ⟨s, is⟩ := x; exact propext ⟨fun ⟨s', is', h1, h2, h3⟩ => by cases h1; exact ⟨h2, h3⟩, fun ⟨h2, h3⟩ => ⟨s, is, rfl, h2, h3⟩⟩
@[go_sem] theorem VN : M8 P rs H0 Q .ret tm H = Me (GH P H tm rs) H0 Q H := HQ
@[go_sem] theorem RW : M8 P rs H0 Q .normal tm H = Me (GH P H tm rs) H0 Q H := HQ
@[go_sem] theorem Vb {s : Prop} {is : List IV} : Me (some (s, is)) H0 Q H = (s ∧ KY (KX is) H0 Q H) := rfl
theorem AP {r : IV} (he : Ext H0 H) (hn : NB H0.next r) (h : Q (.ret r) H0) : KY r H0 Q H :=
  .inl ⟨r, H0, he.DN, .wk r r (fun _ _ _ h => h) hn, h⟩
theorem EW {r r' : IV} {J : A0} (he : Cw H0 H J) (hf : Fz H J r r') (h : Q (.ret r') J) : KY r H0 Q H := .inl ⟨r', J, he, hf, h⟩
end
attribute [go_sem] GH rvI KX
@[go_sem] theorem Vc {α : Type} {a : α} {l : List α} : (a :: l)[0]? = some a := rfl
@[go_sem] theorem Vd {α : Type} {a : α} {l : List α} {i : Nat} : (a :: l)[i + 1]? = l[i]? := rfl
def intOf : IV → Int
  | .v (.int _ n) => n
  | _ => 0
@[go_sem] theorem intOf_int {k : IntKind} {n : Int} : intOf (.v (.int k n)) = n := rfl
end Go.Idl
