/- The request, the reply of any bytes, or that they are of none: the saying of the case law 12 Part 2. Conditions: none. -/
import Derived.Test.YtdgfbojdppohnaaGreatDoorPartA
set_option linter.unusedSimpArgs false
set_option linter.unusedVariables false
namespace Go.Idl
open Go Go.RowKit
variable {P : Program} {N : Nat} {tm : Tm} {H : A3}
def AZ (x : Option (Prop × IV)) (H : A3) : Option (Prop × IV × A3) :=
  match x with
  | some (s, r) => some (s, r, H)
  | none => none
def AJ (x : Option (Prop × IV × A3)) (K : IV → A3 → Prop) (alt : Prop) : Prop :=
  match x with
  | some (s, r, H) => s ∧ K r H
  | none => alt
def E2 (x : Option (FuncId × List IV)) (A : FuncId → List IV → Prop) (alt : Prop) : Prop :=
  match x with
  | some (f, cap) => A f cap
  | none => alt
def ldX (P : Program) (H : A3) (t : TypeId) (x : IV) : Option (Prop × IV) :=
  match x with
  | .p k off => ldN P H t (.p k off)
  | .pr k n off => ldN P H t (.pr k n off)
  | y => ldP P t y
def stX (P : Program) (H : A3) (t : TypeId) (x y : IV) : Option (Prop × IV × A3) :=
  match x with
  | .p k off =>
    match H.obj k, AP y with
    | some (.cells cs), some vc => some (AS (vc.length = P.cellsOf t) ∧ AS (0 < P.cellsOf t) ∧ AS (off + vc.length ≤ cs.length), .v undef, H.set k (.cells (DP cs vc off)))
    | some (.ty T (.cells cs)), some vc => some (AS (vc.length = P.cellsOf t) ∧ AS (0 < P.cellsOf t) ∧ AS (off + vc.length ≤ cs.length), .v undef, H.set k (.ty T (.cells (DP cs vc off))))
    | _, _ => none
  | .pr k n off =>
    match H.obj k, AP y with
    | some (.row sz es), some vc => some (AS (es.length = n) ∧ AS (vc.length = P.cellsOf t) ∧ AS (0 < P.cellsOf t) ∧ AS (off % sz + vc.length ≤ sz) ∧ AS (off < es.length * sz), .v undef, H.set k (.row sz (De sz es vc off)))
    | _, _ => none
  | _ => none
def ixX (P : Program) (H : A3) (t : TypeId) (x i : IV) : Option (Prop × IV) :=
  match x with
  | .os k n =>
    match P.underlying t, H.obj k, i with
    | some (.slice e), some (.row _ es), .v (.int _ m) => some (AS (es.length = n) ∧ AS (0 < P.cellsOf e) ∧ AS (0 ≤ m) ∧ AS (m < n), .pr k n (m.toNat * P.cellsOf e))
    | _, _, _ => none
  | y => ixP P (P.underlying t) y i
def alX (P : Program) (H : A3) (t : TypeId) : Option (Prop × IV × A3) :=
  match zeroOf P t with
  | some z => if z.cells.toList.all (·.oneCell') = true then some (True, .p H.next 0, H.new (tyB P t (.cells (z.cells.toList.map .v)))) else none
  | none => none
def bxX (H : A3) (x : IV) : Option (Prop × IV × A3) :=
  match AP x with
  | some cs => some (True, .p H.next 0, H.new (.cells cs))
  | none => none
def bzI (n : Nat) (x : Option (Nat × List IV)) : Option (Prop × IV) :=
  match x with
  | some (sz, rs) => some (True, .sl sz (chunks sz n rs))
  | none => none
def cmX (P : Program) (H : A3) (b : Builtin) (l ts : List IV) (ats : List TypeId) : Option (Prop × IV × A3) :=
  match b, l, ats with
  | .delete, [x, i], [t, _] => dlX P H t x i
  | .len, [x], [t] => match Fx (P.underlying t) x with | some (s, r) => some (s, r, H) | none => AZ (lnX P H t x) H
  | _, _, _ => none
def efX (P : Program) (H : A3) (tm : Tm) (op : Op) : Option (Prop × IV × A3) :=
  match op with
  | .alloc t => alX P H t
  | .box _ x => bxX H (ev tm x)
  | .load t x => AZ (ldX P H t (ev tm x)) H
  | .store t x y => stX P H t (ev tm x) (ev tm y)
  | .indexAddr t x i => AZ (ixX P H t (ev tm x) (ev tm i)) H
  | .buildSlice t (n + 1) ps => AZ (bzI (n + 1) (bsI P t (n + 1) (ps.toList.map fun q => (q.1, ev tm q.2)))) H
  | .lookup t x i ok => AZ (lkX P H t (ev tm x) (ev tm i) ok) H
  | .mapUpdate t x i y => muX P H t (ev tm x) (ev tm i) (ev tm y)
  | .insert t x i y => muX P H t (ev tm x) (ev tm i) (ev tm y)
  | .makeMap _ none => some (True, .mp H.next, H.new (.map []))
  | .call ⟨.builtin b, l, ats⟩ => cmX P H b (l.toList.map (ev tm)) [] ats.toList
  | op => AZ (evP P tm op) H
theorem IP {o : Oper} {K : IV → A3 → Prop} {Qp : List PanicEntry → A3 → Prop} {t : TypeId} {x : Operand} {s : Prop} {r : IV} (ho : o.op = .load t x) (hok : okO N o = true)
    (h : ldX P H t (ev tm x) = some (s, r)) (hs : s) (hk : K r H) : Av P N o tm H K Qp := by
 have alt : ldP P t (ev tm x) = some (s, r) → Av P N o tm H K Qp := fun h => Dw hok (by rw [ho]; exact h) hs hk; cases hx : ev tm x <;> rw [hx] at h alt
 case p k off => exact Jt ho hok (by rw [hx]; exact h) hs hk
 case pr k n off => exact Jt ho hok (by rw [hx]; exact h) hs hk
 all_goals exact alt h
theorem Ib {o : Oper} {K : IV → A3 → Prop} {Qp : List PanicEntry → A3 → Prop} {s : Prop} {r : IV} {H' : A3} (hok : okO N o = true) (h : efX P H tm o.op = some (s, r, H')) (hs : s) (hk : K r H') : Av P N o tm H K Qp := by
 have pure' : AZ (evP P tm o.op) H = some (s, r, H') → Av P N o tm H K Qp := by
  intro h; unfold AZ at h; split at h
  ·rename_i s' r' he; simp only [Option.some.injEq, Prod.mk.injEq] at h; obtain ⟨rfl, rfl, rfl⟩ := h; exact Dw hok he hs hk
  ·cases h
 cases ho : o.op <;> rw [ho] at h pure'
 case alloc t =>
  simp only [efX, alX] at h; split at h
  ·rename_i z hz; split at h
   ·rename_i hone; simp only [Option.some.injEq, Prod.mk.injEq] at h; obtain ⟨_, rfl, rfl⟩ := h; exact M0 ho hz hone hk
   ·cases h
  ·cases h
 case box t x =>
  simp only [efX, bxX] at h; split at h
  ·rename_i cs hc; simp only [Option.some.injEq, Prod.mk.injEq] at h; obtain ⟨_, rfl, rfl⟩ := h; exact OG ho hok hc hk
  ·cases h
 case load t x =>
  simp only [efX, AZ] at h; split at h
  ·rename_i s' r' hl; simp only [Option.some.injEq, Prod.mk.injEq] at h; obtain ⟨rfl, rfl, rfl⟩ := h; exact IP ho hok hl hs hk
  ·cases h
 case store t x y =>
  simp only [efX, stX] at h; split at h
  ·rename_i k off hx; split at h
   ·rename_i cs vc hk' hv; simp only [Option.some.injEq, Prod.mk.injEq] at h; obtain ⟨rfl, rfl, rfl⟩ := h; exact M3 ho hok hx hk' hv hs.1 hs.2.1 hs.2.2 hk
   ·rename_i T cs vc hk' hv; simp only [Option.some.injEq, Prod.mk.injEq] at h; obtain ⟨rfl, rfl, rfl⟩ := h; exact Lb ho hok hx hk' hv hs.1 hs.2.1 hs.2.2 hk
   ·cases h
  ·rename_i k n off hx; split at h
   ·rename_i sz es vc hk' hv; simp only [Option.some.injEq, Prod.mk.injEq] at h; obtain ⟨rfl, rfl, rfl⟩ := h; exact Lc ho hok hx hk' hs.1 hv hs.2.1 hs.2.2.1 hs.2.2.2.1 hs.2.2.2.2 hk
   ·cases h
  ·cases h
 case indexAddr t x i =>
  simp only [efX, AZ] at h; split at h
  ·rename_i s' r' hl; simp only [Option.some.injEq, Prod.mk.injEq] at h; obtain ⟨rfl, rfl, rfl⟩ := h; unfold ixX at hl; split at hl
   ·rename_i k n hx; split at hl
    ·rename_i e sz es kk m hu hk' hi; simp only [Option.some.injEq, Prod.mk.injEq] at hl; obtain ⟨rfl, rfl⟩ := hl; exact N3 ho hok hu hx hi hk' hs.1 hs.2.1 hs.2.2.1 hs.2.2.2 hk
    ·cases hl
   ·exact Dw hok (by rw [ho]; exact hl) hs hk
  ·cases h
 case buildSlice t n ps =>
  cases n with
  | zero => exact pure' h
  | succ n =>
   simp only [efX, AZ] at h; split at h
   ·rename_i s' r' hl; simp only [Option.some.injEq, Prod.mk.injEq] at h; obtain ⟨rfl, rfl, rfl⟩ := h; unfold bzI at hl; split at hl
    ·rename_i sz rs hb; simp only [Option.some.injEq, Prod.mk.injEq] at hl; obtain ⟨_, rfl⟩ := hl; exact EP ho hok hb hk
    ·cases hl
   ·cases h
 case lookup t x i k =>
  simp only [efX, AZ] at h; split at h
  ·rename_i s' r' hl; simp only [Option.some.injEq, Prod.mk.injEq] at h; obtain ⟨rfl, rfl, rfl⟩ := h; exact Ht ho hok hl hs hk
  ·cases h
 case mapUpdate t x i y =>
  simp only [efX] at h; exact J9 ho hok h hs hk
 case insert t x i y =>
  simp only [efX] at h; exact Lf ho hok h hs hk
 case makeMap t m =>
  cases m with
  | none =>
   simp only [efX, Option.some.injEq, Prod.mk.injEq] at h; obtain ⟨rfl, rfl, rfl⟩ := h; exact Ks ho hk
  | some m => exact pure' h
 case call c =>
  obtain ⟨ce, l, ats⟩ := c; cases ce with
  | builtin b =>
   simp only [efX, cmX] at h; split at h
   ·rename_i x i t t' h1 h2; obtain ⟨ox, oi, rfl, rfl, rfl⟩ : ∃ ox oi, l = #[ox, oi] ∧ ev tm ox = x ∧ ev tm oi = i := by
     obtain ⟨l⟩ := l
     match l, h1 with
     | [p, q], h1 => simp at h1; exact ⟨p, q, rfl, h1.1, h1.2⟩
    have e2 : ats = #[t, t'] := Array.toList_inj.1 h2; subst e2; exact Lg ho hok h hs hk
   ·rename_i x t h1 h2; obtain ⟨ox, rfl, rfl⟩ : ∃ ox, l = #[ox] ∧ ev tm ox = x := by
     obtain ⟨l⟩ := l
     match l, h1 with
     | [p], h1 => simp at h1; exact ⟨p, rfl, h1⟩
    have e2 : ats = #[t] := Array.toList_inj.1 h2; subst e2; split at h
    ·rename_i s' r' hl; simp only [Option.some.injEq, Prod.mk.injEq] at h; obtain ⟨rfl, rfl, rfl⟩ := h; exact Dw hok (by rw [ho]; exact hl) hs hk
    ·unfold AZ at h; split at h
     ·rename_i s' r' hl; simp only [Option.some.injEq, Prod.mk.injEq] at h; obtain ⟨rfl, rfl, rfl⟩ := h; exact Lh ho hok hl hk
     ·cases h
   ·cases h
  | _ => exact pure' h
 all_goals exact pure' h
def splitB (x : IV) (K : Bool → Prop) : Prop :=
  match x with
  | .v (.bool c) => (c = true → K true) ∧ (c = false → K false)
  | _ => False
def DX (x : IV) (K : Bool → Prop) (sk : Tm → Prop) (tm : Tm) : Prop :=
  match x with
  | .v (.bool c) => (c = true → K true) ∧ (c = false → K false)
  | .v _ => sk tm
  | _ => False
def E3 (c b : Bool) (x y : Prop) : Prop := if c = b then x else y
def Cm (P : Program) (N : Nat) (o : Oper) (tm : Tm) (H : A3) (K : IV → A3 → Prop) (Qp : List PanicEntry → A3 → Prop) : Prop :=
  match o.op with
  | .call { callee := .value x, args, .. } => E2 (fnP (ev tm x)) (fun f cap => A6 P f (args.toList.map (ev tm) ++ cap) H (KJ K Qp)) (Av P N o tm H K Qp)
  | .call { callee := .builtin .append, args, argTypes, .. } =>
    match args.toList, argTypes.toList with
    | [x, y], [t, t'] => AJ (apI P H t t' (ev tm x) (ev tm y)) K (Av P N o tm H K Qp)
    | _, _ => Av P N o tm H K Qp
  | .pick c a b => splitB (ev tm c) fun q => E3 q true (K (ev tm a) H) (K (ev tm b) H)
  | op => AJ (efX P H tm op) K (Av P N o tm H K Qp)
theorem Dy {o : Oper} {K : IV → A3 → Prop} {Qp : List PanicEntry → A3 → Prop} (hok : okO N o = true) (h : Cm P N o tm H K Qp) : Av P N o tm H K Qp := by
 unfold Cm at h; split at h
 ·rename_i x args ats ho; unfold E2 at h; split at h
  ·rename_i f cap hf; exact Jz ho hok hf h
  ·exact h
 ·rename_i args ats ho; split at h
  ·rename_i x y t t' h1 h2; unfold AJ at h; split at h
   ·rename_i s r H' he; have e1 : args = #[x, y] := Array.toList_inj.1 h1; have e2 : ats = #[t, t'] := Array.toList_inj.1 h2; subst e1; subst e2; exact Hp ho hok he h.1 h.2
   ·exact h
  ·exact h
 ·rename_i c a b ho; unfold splitB at h; split at h
  ·rename_i q hq; cases q with
   | true =>
    have h2 := h.1 rfl; refine Dw hok (i := ev tm a) (s := True) ?_ trivial (by simpa [E3] using h2); rw [ho]; simp [evP, hq]
   | false =>
    have h2 := h.2 rfl; refine Dw hok (i := ev tm b) (s := True) ?_ trivial (by simpa [E3] using h2); rw [ho]; simp [evP, hq]
  ·exact h.elim
 ·unfold AJ at h; split at h
  ·rename_i s r H' he; exact Ib hok he h.1 h.2
  ·exact h
def vcG (full : Array Oper) (o : Oper) (tm : Tm) (run skip : Tm → Prop) : Prop :=
  match o.guard with
  | none => run tm
  | some (j, b) =>
    match (full[j]?).bind (·.dst) with
    | some d => DX (tm d) (fun c => E3 c b (run (upd tm d (.v (.bool c)))) (skip (upd tm d (.v (.bool c))))) skip tm
    | none => False
def Dh (P : Program) (N : Nat) (full : Array Oper) : List Oper → (Exit → Tm → A3 → Prop) → Tm → A3 → Prop
  | [], Q, tm, H => Q .normal tm H
  | o :: l, Q, tm, H => vcG full o tm
      (fun tm => Cm P N o tm H (fun x H' => Dh P N full l Q (BR tm o.dst x) H') (fun ch H' => Q (.panic ch) tm H'))
      (fun tm => Dh P N full l Q (BR tm o.dst (.v undef)) H)
theorem Hv {d : Nat} {x : IV} (h : tm d = x) : upd tm d x = tm := by
 funext i; unfold upd; split
 ·rename_i e; rw [e, h]
 ·rfl
theorem Ey {full : Array Oper} (hok : full.toList.all (okO N) = true) {Q : Exit → Tm → A3 → Prop} : ∀ (l : List Oper) (i : Nat) (tm : Tm) (H : A3), (∀ (j : Nat) (o : Oper), l[j]? = some o → full[i + j]? = some o) →
    Dh P N full l Q tm H → Hf P N full (List.range' i l.length) Q tm H
  | [], i, tm, H, _, h => Hi h
  | o :: l, i, tm, H, hl, h => by
    have ho : full[i]? = some o := hl 0 o rfl
    have hl' : ∀ (j : Nat) (o : Oper), l[j]? = some o → full[i + 1 + j]? = some o := fun j o' h => by
      have := hl (j + 1) o' (by simpa using h)
      rwa [show i + (j + 1) = i + 1 + j by omega] at this
    have hall := List.all_eq_true.1 hok
    have hoo : okO N o = true := hall o (by rw [Array.mem_toList_iff]; exact Array.mem_of_getElem? ho)
    have run : (∀ (w : World) (g : Gs) (a : Act), RA w g a tm → a.tmps.size = N → Region.wanted o (yielded full a.tmps) = true) →
        Cm P N o tm H (fun x H' => Dh P N full l Q (BR tm o.dst x) H') (fun ch H' => Q (.panic ch) tm H') → Hf P N full (i :: List.range' (i + 1) l.length) Q tm H := fun hg h =>
      Ee ho hg ((Dy hoo h).mono (fun x H' h => Ey hok l (i + 1) _ _ hl' h) fun _ _ h => h)
    have skip : (∀ (w : World) (g : Gs) (a : Act), RA w g a tm → a.tmps.size = N → Region.wanted o (yielded full a.tmps) = false) →
        Dh P N full l Q (BR tm o.dst (.v undef)) H → Hf P N full (i :: List.range' (i + 1) l.length) Q tm H := fun hg h =>
      Ot ho hg (Ey hok l (i + 1) _ _ hl' h)
    show Hf P N full (i :: List.range' (i + 1) l.length) Q tm H
    unfold Dh vcG at h
    split at h
    · rename_i hgd
      exact run (fun w g a r hN => by simp [Region.wanted, hgd]) h
    · rename_i j b hgd
      split at h
      · rename_i d hd
        have hdN : d < N := by
          rw [Option.bind_eq_some_iff] at hd
          obtain ⟨o', h1, h2⟩ := hd
          have := hall o' (by rw [Array.mem_toList_iff]; exact Array.mem_of_getElem? h1)
          simp only [okO, h2, Bool.and_eq_true, decide_eq_true_eq] at this
          exact this.2
        unfold DX at h
        split at h
        · rename_i c hc
          have hy : ∀ (w : World) (g : Gs) (a : Act), RA w g a tm → a.tmps.size = N → yielded full a.tmps j = some c := by
            intro w g a r hN
            have h1 := r d (by rw [hN]; exact hdN)
            rw [hc] at h1
            have h2 := h1.v_eq
            have h3 : a.tmps[d]? = some (.bool c) := by
              have hlt : d < a.tmps.size := by rw [hN]; exact hdN
              rw [Array.getElem?_eq_getElem hlt]
              simpa [hlt] using h2
            simp [yielded, hd, h3]
          have hw : ∀ (w : World) (g : Gs) (a : Act), RA w g a tm → a.tmps.size = N → Region.wanted o (yielded full a.tmps) = (c == b) := by
            intro w g a r hN
            simp [Region.wanted, hgd, hy w g a r hN]
          have key : E3 c b (Cm P N o tm H (fun x H' => Dh P N full l Q (BR tm o.dst x) H') (fun ch H' => Q (.panic ch) tm H')) (Dh P N full l Q (BR tm o.dst (.v undef)) H) := by
            cases c with
            | true =>
              have := h.1 rfl
              dsimp only at this
              rwa [Hv hc] at this
            | false =>
              have := h.2 rfl
              dsimp only at this
              rwa [Hv hc] at this
          unfold E3 at key
          split at key
          · rename_i e
            exact run (fun w g a r hN => by rw [hw w g a r hN]; simp [e]) key
          · rename_i e
            exact skip (fun w g a r hN => by rw [hw w g a r hN]; simp [e]) key
        · rename_i y hne hc
          refine skip (fun w g a r hN => ?_) h
          have h1 := r d (by rw [hN]; exact hdN)
          rw [hc] at h1
          have h2 := h1.v_eq
          have hlt : d < a.tmps.size := by rw [hN]; exact hdN
          have h3 : a.tmps[d]? = some y := by
            rw [Array.getElem?_eq_getElem hlt]
            simpa [hlt] using h2
          have h4 : yielded full a.tmps j = none := by
            simp only [yielded, hd, Option.bind_some, h3]
            split
            · rename_i c e
              cases e
              exact (hne c rfl).elim
            · rfl
          simp [Region.wanted, hgd, h4]
        · exact h.elim
      · exact h.elim
def M8 (x : IV) (a b : Prop) : Prop :=
  match x with
  | .v (.bool c) => (c = true → a) ∧ (c = false → b)
  | _ => False
def N8 (P : Program) (N : Nat) (c : Code) (Q : Exit → Tm → A3 → Prop) (tm : Tm) (H : A3) : Prop :=
  ∃ (I : Tm → A3 → Prop) (μ : Tm → A3 → Nat), UpI I tm H ∧ ∀ tm H, I tm H → IWp P N c (Eb (Up I μ (μ tm H)) Q) tm H
def vc (P : Program) (N : Nat) : Code → (Exit → Tm → A3 → Prop) → Tm → A3 → Prop
  | .skip, Q, tm, H => Q .normal tm H
  | .label _, Q, tm, H => Q .normal tm H
  | .exit id, Q, tm, H => Q (.exit id) tm H
  | .goto l, Q, tm, H => Q (.goto l) tm H
  | .ret, Q, tm, H => Q .ret tm H
  | .seq a b, Q, tm, H => vc P N a (Eb (vc P N b Q) Q) tm H
  | .region id ops draw, Q, tm, H => match draw with | true => IWp P N (.region id ops true) Q tm H | false => Dh P N ops ops.toList Q tm H
  | .cond c x y, Q, tm, H => M8 (ev tm c) (vc P N x Q tm H) (vc P N y Q tm H)
  | .block id c, Q, tm, H => vc P N c (Ec id Q) tm H
  | .loop c, Q, tm, H => N8 P N c Q tm H
  | c, Q, tm, H => IWp P N c Q tm H
def Ja (N : Nat) : Code → Bool
  | .seq a b => Ja N a && Ja N b
  | .region _ ops draw => match draw with | true => true | false => ops.toList.all (okO N)
  | .cond c x y => opd N c && Ja N x && Ja N y
  | .block _ c => Ja N c
  | .loop c => Ja N c
  | _ => true
theorem AW : ∀ (c : Code), Ja N c = true → ∀ (Q : Exit → Tm → A3 → Prop) (tm : Tm) (H : A3), vc P N c Q tm H → IWp P N c Q tm H
  | .skip, _, Q, tm, H, h => Pw h
  | .label _, _, Q, tm, H, h => Oq h
  | .exit _, _, Q, tm, H, h => Px h
  | .goto _, _, Q, tm, H, h => Py h
  | .ret, _, Q, tm, H, h => RG h
  | .seq a b, hf, Q, tm, H, h => by
    simp only [Ja, Bool.and_eq_true] at hf
    refine L6 ((AW a hf.1 _ tm H h).mono fun e tm' H' q => ?_)
    cases e with
    | normal => exact AW b hf.2 Q tm' H' q
    | _ => exact q
  | .region id ops true, _, Q, tm, H, h => h
  | .region id ops false, hf, Q, tm, H, h => by
    refine F4 ?_
    have := Ey (full := ops) hf ops.toList 0 tm H (fun j o ho => by simpa using ho) h
    rwa [List.range_eq_range', ← Array.length_toList]
  | .cond c x y, hf, Q, tm, H, h => by
    simp only [Ja, Bool.and_eq_true] at hf
    unfold vc M8 at h
    split at h
    · rename_i b hb
      exact He hb hf.1.1 (fun e => AW x hf.1.2 Q tm H (h.1 e)) (fun e => AW y hf.2 Q tm H (h.2 e))
    · exact h.elim
  | .block id c, hf, Q, tm, H, h => Ai (AW c hf _ tm H h)
  | .loop c, hf, Q, tm, H, ⟨I, μ, h0, h1⟩ => OI I μ h0 h1
  | .rangeFunc .., _, Q, tm, H, h => h
  | .scope _, _, Q, tm, H, h => h
  | .refuse _, _, Q, tm, H, h => h
theorem Li {f : FuncId} {fn : Func} {c : Code} {args : List IV} {Q : AB → A3 → Prop} (hf : P.funcs[f]? = some fn) (hbd : BQ P f = true) (hb : fn.body = some c) (hN : fn.ntmps = N)
    (hn : (args.length ≤ N ∧ fn.results.toList.all (rvN N) = true ∧ Ja N c = true))
    (h : H.Wf → vc P N c (N4 P fn.results.toList H Q) (tm0 args) H) : A6 P f args H Q := by
 subst hN; exact Gn hbd hf hb hn.1 hn.2.1 fun hw => AW c hn.2.2 _ _ _ (h hw)
end Go.Idl
namespace Go.Idl
open Go Go.RowKit
variable {P : Program} {N : Nat} {tm : Tm} {H : A3}
def KK (x : IV) (a b : Tm → A3 → Prop) (tm : Tm) (H : A3) : Prop := M8 x (a tm H) (b tm H)
def O3 (P : Program) (N : Nat) (full : Array Oper) (l : List Oper) (Q : Exit → Tm → A3 → Prop) (d : Option Tmp) (tm : Tm) : IV → A3 → Prop := fun x H' => Dh P N full l Q (BR tm d x) H'
def Lj (Q : Exit → Tm → A3 → Prop) (tm : Tm) : List PanicEntry → A3 → Prop := fun ch H' => Q (.panic ch) tm H'
def TE (P : Program) (N : Nat) (full : Array Oper) (o : Oper) (l : List Oper) (Q : Exit → Tm → A3 → Prop) (H : A3) : Tm → Prop := fun tm => Cm P N o tm H (O3 P N full l Q o.dst tm) (Lj Q tm)
def PK (P : Program) (N : Nat) (full : Array Oper) (d : Option Tmp) (l : List Oper) (Q : Exit → Tm → A3 → Prop) (H : A3) : Tm → Prop := fun tm => Dh P N full l Q (BR tm d (.v undef)) H
def EJ (b : Bool) (d : Tmp) (tm : Tm) (run skip : Tm → Prop) : Bool → Prop := fun c => E3 c b (run (upd tm d (.v (.bool c)))) (skip (upd tm d (.v (.bool c))))
def M9 (K : IV → A3 → Prop) (x y : IV) (H : A3) : Bool → Prop := fun q => E3 q true (K x H) (K y H)
def Ma (P : Program) (args : List IV) (H : A3) (K : IV → A3 → Prop) (Qp : List PanicEntry → A3 → Prop) : FuncId → List IV → Prop := fun f cap => A6 P f (args ++ cap) H (KJ K Qp)
section
variable {Q : Exit → Tm → A3 → Prop}
@[go_sem] theorem XQ : vc P N .skip Q tm H = Q .normal tm H := rfl
@[go_sem] theorem WG {l : Nat} : vc P N (.label l) Q tm H = Q .normal tm H := rfl
@[go_sem] theorem XR {l : Nat} : vc P N (.exit l) Q tm H = Q (.exit l) tm H := rfl
@[go_sem] theorem XS {l : Nat} : vc P N (.goto l) Q tm H = Q (.goto l) tm H := rfl
@[go_sem] theorem YS : vc P N .ret Q tm H = Q .ret tm H := rfl
@[go_sem] theorem YT {a b : Code} : vc P N (.seq a b) Q tm H = vc P N a (Eb (vc P N b Q) Q) tm H := rfl
@[go_sem] theorem VK {id : Nat} {l : List Oper} : vc P N (.region id ⟨l⟩ false) Q tm H = Dh P N ⟨l⟩ l Q tm H := rfl
@[go_sem] theorem XT {id : Nat} {l : Array Oper} : vc P N (.region id l true) Q tm H = IWp P N (.region id l true) Q tm H := rfl
@[go_sem] theorem XU {c : Operand} {x y : Code} : vc P N (.cond c x y) Q tm H = KK (ev tm c) (vc P N x Q) (vc P N y Q) tm H := rfl
@[go_sem] theorem WH {id : Nat} {c : Code} : vc P N (.block id c) Q tm H = vc P N c (Ec id Q) tm H := rfl
@[go_sem] theorem XV {c : Code} : vc P N (.loop c) Q tm H = N8 P N c Q tm H := rfl
@[go_sem] theorem RR {f : Operand} {ps : Array Tmp} {a b : Code} : vc P N (.rangeFunc f ps a b) Q tm H = IWp P N (.rangeFunc f ps a b) Q tm H := rfl
@[go_sem] theorem WI {c : Code} : vc P N (.scope c) Q tm H = IWp P N (.scope c) Q tm H := rfl
variable {K : Tm → A3 → Prop}
@[go_sem] theorem RS : Eb K Q .normal tm H = K tm H := rfl
@[go_sem] theorem TF {l : Nat} : Eb K Q (.exit l) tm H = Q (.exit l) tm H := rfl
@[go_sem] theorem TG {l : Nat} : Eb K Q (.goto l) tm H = Q (.goto l) tm H := rfl
@[go_sem] theorem VL : Eb K Q .ret tm H = Q .ret tm H := rfl
@[go_sem] theorem S_ {c : List PanicEntry} : Eb K Q (.panic c) tm H = Q (.panic c) tm H := rfl
@[go_sem] theorem Rz {id : Nat} : Ec id Q .normal tm H = Q .normal tm H := rfl
@[go_sem] theorem T0 {id : Nat} : Ec id Q (.exit id) tm H = Q .normal tm H := by simp [Ec]
@[go_sem] theorem T3 {id l : Nat} : Ec id Q (.goto l) tm H = Q (.goto l) tm H := rfl
@[go_sem] theorem TH {id : Nat} : Ec id Q .ret tm H = Q .ret tm H := rfl
@[go_sem] theorem RT {id : Nat} {c : List PanicEntry} : Ec id Q (.panic c) tm H = Q (.panic c) tm H := rfl
@[go_sem] theorem VM {full : Array Oper} : Dh P N full [] Q tm H = Q .normal tm H := rfl
@[go_sem] theorem TI {full : Array Oper} {d : Option Tmp} {op : Op} {t : TypeId} {p : String} {af : Array Edge} {l : List Oper} :
    Dh P N full (⟨d, op, t, p, af, none⟩ :: l) Q tm H = Cm P N ⟨d, op, t, p, af, none⟩ tm H (O3 P N full l Q d tm) (Lj Q tm) := rfl
@[go_sem] theorem VN {full : Array Oper} {l : List Oper} {d : Option Tmp} {x : IV} : O3 P N full l Q d tm x H = Dh P N full l Q (BR tm d x) H := rfl
@[go_sem] theorem WJ {c : List PanicEntry} : Lj Q tm c H = Q (.panic c) tm H := rfl
def Mb (l : List Oper) (j : Nat) : Option Tmp := (l[j]?).bind (·.dst)
def vcH (d : Option Tmp) (b : Bool) (tm : Tm) (run skip : Tm → Prop) : Prop :=
  match d with
  | some d => DX (tm d) (EJ b d tm run skip) skip tm
  | none => False
@[go_sem] theorem T4 {full : List Oper} {d : Option Tmp} {op : Op} {t : TypeId} {p : String} {af : Array Edge} {j : Nat} {b : Bool} {l : List Oper} :
    Dh P N ⟨full⟩ (⟨d, op, t, p, af, some (j, b)⟩ :: l) Q tm H = vcH (Mb full j) b tm (TE P N ⟨full⟩ ⟨d, op, t, p, af, some (j, b)⟩ l Q H) (PK P N ⟨full⟩ d l Q H) := by
 show vcG ⟨full⟩ ⟨d, op, t, p, af, some (j, b)⟩ tm (TE P N ⟨full⟩ ⟨d, op, t, p, af, some (j, b)⟩ l Q H) (PK P N ⟨full⟩ d l Q H) = vcH ((full[j]?).bind (·.dst)) b tm _ _; unfold vcG vcH; simp only [List.getElem?_toArray]; cases (full[j]?).bind (·.dst) <;> rfl
@[go_sem] theorem WK {full : Array Oper} {o : Oper} {l : List Oper} : TE P N full o l Q H tm = Cm P N o tm H (O3 P N full l Q o.dst tm) (Lj Q tm) := rfl
@[go_sem] theorem VO {full : Array Oper} {d : Option Tmp} {l : List Oper} : PK P N full d l Q H tm = Dh P N full l Q (BR tm d (.v undef)) H := rfl
end
@[go_sem] theorem TJ {o : Oper} {l : List Oper} : Mb (o :: l) 0 = o.dst := rfl
@[go_sem] theorem TK {o : Oper} {l : List Oper} {j : Nat} : Mb (o :: l) (j + 1) = Mb l j := rfl
@[go_sem] theorem WL {d : Tmp} {b : Bool} {run skip : Tm → Prop} : vcH (some d) b tm run skip = DX (tm d) (EJ b d tm run skip) skip tm := rfl
@[go_sem] theorem VP {d : Tmp} {run skip : Tm → Prop} : EJ true d tm run skip true = run (upd tm d (.v (.bool true))) := by simp [EJ, E3]
@[go_sem] theorem VQ {d : Tmp} {run skip : Tm → Prop} : EJ true d tm run skip false = skip (upd tm d (.v (.bool false))) := by simp [EJ, E3]
@[go_sem] theorem VR {d : Tmp} {run skip : Tm → Prop} : EJ false d tm run skip true = skip (upd tm d (.v (.bool true))) := by simp [EJ, E3]
@[go_sem] theorem VS {d : Tmp} {run skip : Tm → Prop} : EJ false d tm run skip false = run (upd tm d (.v (.bool false))) := by simp [EJ, E3]
@[go_sem] theorem TL {K : IV → A3 → Prop} {x y : IV} : M9 K x y H true = K x H := by simp [M9, E3]
@[go_sem] theorem T5 {K : IV → A3 → Prop} {x y : IV} : M9 K x y H false = K y H := by simp [M9, E3]
@[go_sem] theorem VT {args cap : List IV} {K : IV → A3 → Prop} {Qp : List PanicEntry → A3 → Prop} {f : FuncId} : Ma P args H K Qp f cap = A6 P f (args ++ cap) H (KJ K Qp) := rfl
@[go_sem] theorem T6 {K : Bool → Prop} {sk : Tm → Prop} : DX (.v (.bool true)) K sk tm = K true := by simp [DX]
@[go_sem] theorem RU {K : Bool → Prop} {sk : Tm → Prop} : DX (.v (.bool false)) K sk tm = K false := by simp [DX]
@[go_sem] theorem RV {K : Bool → Prop} {sk : Tm → Prop} : DX (.v undef) K sk tm = sk tm := rfl
theorem Hw {c : Bool} {K : Bool → Prop} {sk : Tm → Prop} (h1 : c = true → K true) (h2 : c = false → K false) : DX (.v (.bool c)) K sk tm := ⟨h1, h2⟩
@[go_sem] theorem T7 {K : Bool → Prop} : splitB (.v (.bool true)) K = K true := by simp [splitB]
@[go_sem] theorem RW {K : Bool → Prop} : splitB (.v (.bool false)) K = K false := by simp [splitB]
@[go_sem] theorem TM {a b : Tm → A3 → Prop} : KK (.v (.bool true)) a b tm H = a tm H := by simp [KK, M8]
@[go_sem] theorem T8 {a b : Tm → A3 → Prop} : KK (.v (.bool false)) a b tm H = b tm H := by simp [KK, M8]
@[go_sem] theorem TN {s : Prop} {r : IV} {K : IV → A3 → Prop} {alt : Prop} : AJ (some (s, r, H)) K alt = (s ∧ K r H) := rfl
@[go_sem] theorem TO {K : IV → A3 → Prop} {alt : Prop} : AJ none K alt = alt := rfl
@[go_sem] theorem TP {f : FuncId} {cap : List IV} {A : FuncId → List IV → Prop} {alt : Prop} : E2 (some (f, cap)) A alt = A f cap := rfl
@[go_sem] theorem TQ {A : FuncId → List IV → Prop} {alt : Prop} : E2 none A alt = alt := rfl
@[go_sem] theorem TR {s : Prop} {r : IV} : AZ (some (s, r)) H = some (s, r, H) := rfl
@[go_sem] theorem TS : AZ none H = none := rfl
@[go_sem] theorem VU {K : IV → A3 → Prop} {Qp : List PanicEntry → A3 → Prop} {r : IV} : KJ K Qp (.ret r) H = K r H := rfl
@[go_sem] theorem VV {K : IV → A3 → Prop} {Qp : List PanicEntry → A3 → Prop} {c : List PanicEntry} : KJ K Qp (.pan c) H = Qp c H := rfl
@[go_sem] theorem VW {d : Nat} {x : IV} : BR tm (some d) x = upd tm d x := rfl
@[go_sem] theorem VX {x : IV} : BR tm none x = tm := rfl
@[go_sem] theorem XW {d i : Nat} {x : IV} : upd tm d x i = if i = d then x else tm i := rfl
@[go_sem] theorem YU {t : Tmp} : ev tm (.tmp t) = tm t := rfl
@[go_sem] theorem WM {x : Value} : ev tm (.const x) = .v x := rfl
@[go_sem] theorem XX {f : FuncId} : ev tm (.func f) = .v (.func (.func f) #[] #[]) := rfl
@[go_sem] theorem VY {g : Nat} : ev tm (.global g) = .v (.pointer (some ⟨g, 0, none⟩)) := rfl
section
variable {d : Option Tmp} {t : TypeId} {p : String} {af : Array Edge} {gd : Option (Nat × Bool)} {K : IV → A3 → Prop} {Qp : List PanicEntry → A3 → Prop}
@[go_sem] theorem VZ {x : Operand} {l : List Operand} {ats : Array TypeId} : Cm P N ⟨d, .call ⟨.value x, ⟨l⟩, ats⟩, t, p, af, gd⟩ tm H K Qp =
    E2 (fnP (ev tm x)) (Ma P (l.map (ev tm)) H K Qp) (Av P N ⟨d, .call ⟨.value x, ⟨l⟩, ats⟩, t, p, af, gd⟩ tm H K Qp) := rfl
@[go_sem] theorem T9 {x y : Operand} {a b : TypeId} : Cm P N ⟨d, .call ⟨.builtin .append, #[x, y], #[a, b]⟩, t, p, af, gd⟩ tm H K Qp =
    AJ (apI P H a b (ev tm x) (ev tm y)) K (Av P N ⟨d, .call ⟨.builtin .append, #[x, y], #[a, b]⟩, t, p, af, gd⟩ tm H K Qp) := rfl
def RX (a b : Option (Prop × IV)) : Option (Prop × IV) := match a with | some r => some r | none => b
@[go_sem] theorem V_ {p : Prop × IV} {b : Option (Prop × IV)} : RX (some p) b = some p := rfl
@[go_sem] theorem W0 {b : Option (Prop × IV)} : RX none b = b := rfl
@[go_sem] theorem WN {x : Operand} {a : TypeId} : Cm P N ⟨d, .call ⟨.builtin .len, #[x], #[a]⟩, t, p, af, gd⟩ tm H K Qp =
    AJ (AZ (RX (Fx (P.underlying a) (ev tm x)) (lnX P H a (ev tm x))) H) K (Av P N ⟨d, .call ⟨.builtin .len, #[x], #[a]⟩, t, p, af, gd⟩ tm H K Qp) := by
 show AJ (cmX P H .len [ev tm x] [] [a]) K _ = _; congr 1; unfold cmX RX; simp only; cases Fx (P.underlying a) (ev tm x) <;> rfl
@[go_sem] theorem Ta {x y : Operand} {a b : TypeId} : Cm P N ⟨d, .call ⟨.builtin .delete, #[x, y], #[a, b]⟩, t, p, af, gd⟩ tm H K Qp =
    AJ (dlX P H a (ev tm x) (ev tm y)) K (Av P N ⟨d, .call ⟨.builtin .delete, #[x, y], #[a, b]⟩, t, p, af, gd⟩ tm H K Qp) := rfl
@[go_sem] theorem Tb {x y : Operand} {a : TypeId} {ok : Bool} : Cm P N ⟨d, .lookup a x y ok, t, p, af, gd⟩ tm H K Qp =
    AJ (AZ (lkX P H a (ev tm x) (ev tm y) ok) H) K (Av P N ⟨d, .lookup a x y ok, t, p, af, gd⟩ tm H K Qp) := rfl
@[go_sem] theorem PL {x y z : Operand} {a : TypeId} : Cm P N ⟨d, .mapUpdate a x y z, t, p, af, gd⟩ tm H K Qp =
    AJ (muX P H a (ev tm x) (ev tm y) (ev tm z)) K (Av P N ⟨d, .mapUpdate a x y z, t, p, af, gd⟩ tm H K Qp) := rfl
@[go_sem] theorem Tc {x y z : Operand} {a : TypeId} : Cm P N ⟨d, .insert a x y z, t, p, af, gd⟩ tm H K Qp =
    AJ (muX P H a (ev tm x) (ev tm y) (ev tm z)) K (Av P N ⟨d, .insert a x y z, t, p, af, gd⟩ tm H K Qp) := rfl
@[go_sem] theorem RY {a : TypeId} : Cm P N ⟨d, .makeMap a none, t, p, af, gd⟩ tm H K Qp =
    AJ (some (True, .mp H.next, H.new (.map []))) K (Av P N ⟨d, .makeMap a none, t, p, af, gd⟩ tm H K Qp) := rfl
@[go_sem] theorem W1 {x : Operand} : Cm P N ⟨d, .move x, t, p, af, gd⟩ tm H K Qp = K (ev tm x) H := true_and _
@[go_sem] theorem Td {x : Operand} : Cm P N ⟨d, .assign x, t, p, af, gd⟩ tm H K Qp = K (ev tm x) H := true_and _
@[go_sem] theorem TT {a : TypeId} : Cm P N ⟨d, .alloc a, t, p, af, gd⟩ tm H K Qp = AJ (alX P H a) K (Av P N ⟨d, .alloc a, t, p, af, gd⟩ tm H K Qp) := rfl
@[go_sem] theorem WO {a : TypeId} {x : Operand} : Cm P N ⟨d, .box a x, t, p, af, gd⟩ tm H K Qp = AJ (bxX H (ev tm x)) K (Av P N ⟨d, .box a x, t, p, af, gd⟩ tm H K Qp) := rfl
@[go_sem] theorem W2 {a : TypeId} {x : Operand} : Cm P N ⟨d, .load a x, t, p, af, gd⟩ tm H K Qp = AJ (AZ (ldX P H a (ev tm x)) H) K (Av P N ⟨d, .load a x, t, p, af, gd⟩ tm H K Qp) := rfl
@[go_sem] theorem TU {a : TypeId} {x y : Operand} : Cm P N ⟨d, .store a x y, t, p, af, gd⟩ tm H K Qp = AJ (stX P H a (ev tm x) (ev tm y)) K (Av P N ⟨d, .store a x y, t, p, af, gd⟩ tm H K Qp) := rfl
@[go_sem] theorem PM {a : TypeId} {x y : Operand} : Cm P N ⟨d, .indexAddr a x y, t, p, af, gd⟩ tm H K Qp = AJ (AZ (ixX P H a (ev tm x) (ev tm y)) H) K (Av P N ⟨d, .indexAddr a x y, t, p, af, gd⟩ tm H K Qp) := rfl
@[go_sem] theorem W3 {c a b : Operand} : Cm P N ⟨d, .pick c a b, t, p, af, gd⟩ tm H K Qp = splitB (ev tm c) (M9 K (ev tm a) (ev tm b) H) := rfl
@[go_sem] theorem TV {a : TypeId} {l : List (Nat × Operand)} : Cm P N ⟨d, .build a ⟨l⟩, t, p, af, gd⟩ tm H K Qp = AJ (AZ (bdP P a (l.map fun q => (q.1, ev tm q.2))) H) K (Av P N ⟨d, .build a ⟨l⟩, t, p, af, gd⟩ tm H K Qp) := rfl
@[go_sem] theorem WQ {n sz : Nat} {rs : List IV} : bzI n (some (sz, rs)) = some (True, .sl sz (chunks sz n rs)) := rfl
@[go_sem] theorem Pm {a : TypeId} {n : Nat} {l : List (Nat × Operand)} : Cm P N ⟨d, .buildSlice a (n + 1) ⟨l⟩, t, p, af, gd⟩ tm H K Qp = AJ (AZ (bzI (n + 1) (bsI P a (n + 1) (l.map fun q => (q.1, ev tm q.2)))) H) K (Av P N ⟨d, .buildSlice a (n + 1) ⟨l⟩, t, p, af, gd⟩ tm H K Qp) := rfl
@[go_sem] theorem Pn {a : TypeId} {l : List (Nat × Operand)} : Cm P N ⟨d, .buildSlice a 0 ⟨l⟩, t, p, af, gd⟩ tm H K Qp = Av P N ⟨d, .buildSlice a 0 ⟨l⟩, t, p, af, gd⟩ tm H K Qp := rfl
@[go_sem] theorem RB {x : Operand} : Cm P N ⟨d, .nilCheck x, t, p, af, gd⟩ tm H K Qp = AJ (AZ (ncP (ev tm x)) H) K (Av P N ⟨d, .nilCheck x, t, p, af, gd⟩ tm H K Qp) := rfl
@[go_sem] theorem TW {op : BinOp} {a b : TypeId} {x y : Operand} : Cm P N ⟨d, .binOp op a x y b, t, p, af, gd⟩ tm H K Qp = AJ (AZ (N0 P op a tm x y) H) K (Av P N ⟨d, .binOp op a x y b, t, p, af, gd⟩ tm H K Qp) := rfl
@[go_sem] theorem W4 {op : UnOp} {a : TypeId} {x : Operand} : Cm P N ⟨d, .unOp op a x, t, p, af, gd⟩ tm H K Qp = AJ (AZ (unP op (ev tm x)) H) K (Av P N ⟨d, .unOp op a x, t, p, af, gd⟩ tm H K Qp) := rfl
@[go_sem] theorem RZ {a b : TypeId} {x : Operand} : Cm P N ⟨d, .convert a b x, t, p, af, gd⟩ tm H K Qp = AJ (AZ (cvP P a b (ev tm x)) H) K (Av P N ⟨d, .convert a b x, t, p, af, gd⟩ tm H K Qp) := rfl
@[go_sem] theorem N9 {a : TypeId} {x : Operand} : Cm P N ⟨d, .makeInterface a x, t, p, af, gd⟩ tm H K Qp = AJ (AZ (mkP P a (ev tm x)) H) K (Av P N ⟨d, .makeInterface a x, t, p, af, gd⟩ tm H K Qp) := rfl
@[go_sem] theorem RC {f : Fn} {x y : List Operand} : Cm P N ⟨d, .makeFunc f ⟨x⟩ ⟨y⟩, t, p, af, gd⟩ tm H K Qp = K (.fn f (x.map (ev tm)) (y.map (ev tm))) H := true_and _
@[go_sem] theorem TX {a : TypeId} {x : Operand} {lo hi mx : Option Operand} : Cm P N ⟨d, .slice a x lo hi mx, t, p, af, gd⟩ tm H K Qp =
    AJ (AZ (slP P (P.underlying a) (ev tm x) (lo.map (ev tm)) (hi.map (ev tm)) (mx.map (ev tm))) H) K (Av P N ⟨d, .slice a x lo hi mx, t, p, af, gd⟩ tm H K Qp) := rfl
@[go_sem] theorem PN {a : TypeId} {x : Operand} {f : Nat} : Cm P N ⟨d, .fieldAddr a x f, t, p, af, gd⟩ tm H K Qp = AJ (AZ (fdP P (P.underlying a) (ev tm x) f) H) K (Av P N ⟨d, .fieldAddr a x f, t, p, af, gd⟩ tm H K Qp) := rfl
@[go_sem] theorem TY {a : TypeId} {x : Operand} {f : Nat} : Cm P N ⟨d, .field a x f, t, p, af, gd⟩ tm H K Qp = AJ (AZ (fvP P (P.underlying a) (ev tm x) f) H) K (Av P N ⟨d, .field a x f, t, p, af, gd⟩ tm H K Qp) := rfl
@[go_sem] theorem TZ {a : TypeId} {x y : Operand} : Cm P N ⟨d, .index a x y, t, p, af, gd⟩ tm H K Qp = AJ (AZ (ivP P (P.underlying a) (ev tm x) (ev tm y)) H) K (Av P N ⟨d, .index a x y, t, p, af, gd⟩ tm H K Qp) := rfl
@[go_sem] theorem R_ {x : Operand} {n : Nat} : Cm P N ⟨d, .extract x n, t, p, af, gd⟩ tm H K Qp = AJ (AZ (exP (ev tm x) n) H) K (Av P N ⟨d, .extract x n, t, p, af, gd⟩ tm H K Qp) := rfl
end
@[go_sem] theorem XY {i : Nat} : tm0 [] i = .v undef := by simp [tm0]
@[go_sem] theorem WR {x : IV} {l : List IV} : tm0 (x :: l) 0 = x := rfl
@[go_sem] theorem WS {x : IV} {l : List IV} {i : Nat} : tm0 (x :: l) (i + 1) = tm0 l i := by simp [tm0]
section
@[go_sem] theorem W5 {cs : List IV} : AP (.ag cs) = some cs := rfl
@[go_sem] theorem W6 {sz : Nat} {es : List (List IV)} : AP (.sl sz es) = some [.sl sz es] := rfl
@[go_sem] theorem W7 {cs : List IV} : AP (.cp cs) = some [.cp cs] := rfl
@[go_sem] theorem W8 {f : Fn} {a b : List IV} : AP (.fn f a b) = some [.fn f a b] := rfl
@[go_sem] theorem T_ {t : TypeId} {x : IV} : AP (.ifc t x) = some [.ifc t x] := rfl
@[go_sem] theorem WT {k o : Nat} : AP (.p k o) = some [.p k o] := rfl
@[go_sem] theorem W9 {k : Nat} : AP (.mp k) = some [.mp k] := rfl
@[go_sem] theorem Wa {k n : Nat} : AP (.os k n) = some [.os k n] := rfl
@[go_sem] theorem Wb {k n o : Nat} : AP (.pr k n o) = some [.pr k n o] := rfl
@[go_sem] theorem Wc {k n o : Nat} : AP (.bs k o n) = some [.bs k o n] := rfl
@[go_sem] theorem U0 {k : IntKind} {n : Int} : AP (.v (.int k n)) = some [.v (.int k n)] := rfl
@[go_sem] theorem Te {b : Bool} : AP (.v (.bool b)) = some [.v (.bool b)] := rfl
@[go_sem] theorem U1 {s : ByteArray} : AP (.v (.string s)) = some [.v (.string s)] := rfl
@[go_sem] theorem S0 {a : Option Addr} {n c : Nat} : AP (.v (.slice a n c)) = some [.v (.slice a n c)] := rfl
@[go_sem] theorem U2 {a : Option Addr} : AP (.v (.pointer a)) = some [.v (.pointer a)] := rfl
@[go_sem] theorem U3 {a : Option Nat} : AP (.v (.map a)) = some [.v (.map a)] := rfl
@[go_sem] theorem Tf {f : Fn} {a b : Array Value} : AP (.v (.func f a b)) = some [.v (.func f a b)] := rfl
@[go_sem] theorem PO  : AP (.v .nilFunc) = some [.v .nilFunc] := rfl
@[go_sem] theorem S1 {t : TypeId} {x : Value} : AP (.v (.iface t x)) = some [.v (.iface t x)] := rfl
@[go_sem] theorem Po  : AP (.v .nilIface) = some [.v .nilIface] := rfl
@[go_sem] theorem U4 {xs : Array Value} : AP (.v (.agg xs)) = if xs.toList.all (·.oneCell') = true then some (xs.toList.map .v) else none := rfl
end
attribute [go_sem] tyB tyR
attribute [go_sem] Value.oneCell' bsI Fq rep Value.cells chunks
attribute [go_sem] N0 ldX ldN ldH ldP stX ixX ixP alX bxX fdP fvP ivP Fx Pz shI RH RI unP cvP ncP exP mkP slP Gf LX La apI N2 elI EH DP fnP Gg
section
variable {P : Program} {op : BinOp} {t : TypeId}
@[go_sem] theorem YV {a b : Value} : Jp P op t (.v a) (.v b) = (match Pz P op t a b with | some (s, r) => some (s, .v r) | none => none) := rfl
@[go_sem] theorem YW {k off : Nat} : Jp P op t (.p k off) (.v (.pointer none)) = (match P.underlying t with
    | some (.pointer _) => match op with | .eql => some (True, .v (.bool false)) | .neq => some (True, .v (.bool true)) | _ => none
    | _ => none) := rfl
@[go_sem] theorem XZ {cs : List IV} : Jp P op t (.cp cs) (.v (.pointer none)) = (match P.underlying t with
    | some (.pointer _) => match op with | .eql => some (True, .v (.bool false)) | .neq => some (True, .v (.bool true)) | _ => none
    | _ => none) := rfl
@[go_sem] theorem X_ {k : Nat} : Jp P op t (.mp k) (.v (.map none)) = (match P.underlying t with
    | some (.map _ _) => match op with | .eql => some (True, .v (.bool false)) | .neq => some (True, .v (.bool true)) | _ => none
    | _ => none) := rfl
@[go_sem] theorem Y0 {f : Fn} {a b : List IV} : Jp P op t (.fn f a b) (.v .nilFunc) = (match P.underlying t with
    | some (.func _ _ _) => match op with | .eql => some (True, .v (.bool false)) | .neq => some (True, .v (.bool true)) | _ => none
    | _ => none) := rfl
@[go_sem] theorem Y1 {sz : Nat} {es : List (List IV)} {y : IV} : Jp P op t (.sl sz es) y = none := by cases y <;> rfl
@[go_sem] theorem Y2 {a b c d : List UInt8} : Jp P op t (.ag [.v (str a), .v (str b)]) (.ag [.v (str c), .v (str d)]) = (match P.underlying t with
    | some (.struct fs) =>
      match fs.toList with
      | [f1, f2] => match op with
        | .eql => some (P.underlying f1.type = some .string ∧ P.underlying f2.type = some .string ∧ f1.offset = 0 ∧ ¬ f1.name = "_" ∧ f2.offset = 1 ∧ ¬ f2.name = "_" ∧ P.stoodInHeld t = false ∧ P.eqGuardType P.depth t = false, .v (.bool (decide (a = c ∧ b = d))))
        | .neq => some (P.underlying f1.type = some .string ∧ P.underlying f2.type = some .string ∧ f1.offset = 0 ∧ ¬ f1.name = "_" ∧ f2.offset = 1 ∧ ¬ f2.name = "_" ∧ P.stoodInHeld t = false ∧ P.eqGuardType P.depth t = false, .v (.bool (!decide (a = c ∧ b = d))))
        | _ => none
      | _ => none
    | _ => none) := by
  simp only [Jp, agE, str, DO]
  cases P.underlying t with
  | none => rfl
  | some d =>
    cases d <;> try rfl
    rename_i fs
    simp only
    rcases fs.toList with _ | ⟨f1, _ | ⟨f2, _ | ⟨f3, l⟩⟩⟩ <;> first | rfl | (cases op <;> rfl)
end
attribute [go_sem] Ou
@[go_sem] theorem Wd : AS True = True := by simp [AS]
theorem E4 {c : Bool} {a b : Tm → A3 → Prop} (h1 : c = true → a tm H) (h2 : c = false → b tm H) : KK (.v (.bool c)) a b tm H := ⟨h1, h2⟩
theorem Jf {c : Bool} {K : Bool → Prop} (h1 : c = true → K true) (h2 : c = false → K false) : splitB (.v (.bool c)) K := ⟨h1, h2⟩
theorem Ic {c : Code} {Q : Exit → Tm → A3 → Prop} (I : Tm → A3 → Prop) (μ : Tm → A3 → Nat) (h0 : UpI I tm H)
    (h : ∀ I' μ', I' = I → μ' = μ → ∀ tm H, I tm H → IWp P N c (Eb (Up I' μ' (μ tm H)) Q) tm H) : N8 P N c Q tm H := ⟨I, μ, h0, h I μ rfl rfl⟩
theorem Up.of {I I' : Tm → A3 → Prop} {μ μ' : Tm → A3 → Nat} {m : Nat} (hI : I' = I) (hμ : μ' = μ) (h : I tm H) (hm : μ tm H < m) : Up I' μ' m tm H := by
 subst hI; subst hμ; exact .same h hm
def Na (x : Option (Prop × List IV)) (H0 : A3) (Q : AB → A3 → Prop) (H : A3) : Prop :=
  match x with
  | some (s, is) => s ∧ M6 (M5 is) H0 Q H
  | none => False
section
variable {H0 : A3} {rs : List ResultVar} {Q : AB → A3 → Prop}
theorem Jg : Le P rs H0 Q tm H = Na (I6 P H tm rs) H0 Q H := by
 unfold Na Le; cases I6 P H tm rs with
 | none => simp
 | some x =>
  obtain ⟨s, is⟩ := x; exact propext ⟨fun ⟨s', is', h1, h2, h3⟩ => by cases h1; exact ⟨h2, h3⟩, fun ⟨h2, h3⟩ => ⟨s, is, rfl, h2, h3⟩⟩
@[go_sem] theorem WU : N4 P rs H0 Q .ret tm H = Na (I6 P H tm rs) H0 Q H := Jg
@[go_sem] theorem Tg : N4 P rs H0 Q .normal tm H = Na (I6 P H tm rs) H0 Q H := Jg
@[go_sem] theorem We {s : Prop} {is : List IV} : Na (some (s, is)) H0 Q H = (s ∧ M6 (M5 is) H0 Q H) := rfl
theorem B3 {r : IV} (he : Ext H0 H) (hn : NB H0.next r) (h : Q (.ret r) H0) : M6 r H0 Q H :=
  .inl ⟨r, H0, he.CK, .wk r r (fun _ _ _ h => h) hn, h⟩
theorem G1 {r r' : IV} {J : A3} (he : Dg H0 H J) (hf : Fz H J r r') (h : Q (.ret r') J) : M6 r H0 Q H := .inl ⟨r', J, he, hf, h⟩
end
attribute [go_sem] I6 rvI M5
@[go_sem] theorem Wg {α : Type} {a : α} {l : List α} : (a :: l)[0]? = some a := rfl
@[go_sem] theorem Wh {α : Type} {a : α} {l : List α} {i : Nat} : (a :: l)[i + 1]? = l[i]? := rfl
def intOf : IV → Int
  | .v (.int _ n) => n
  | _ => 0
@[go_sem] theorem intOf_int {k : IntKind} {n : Int} : intOf (.v (.int k n)) = n := rfl
end Go.Idl
