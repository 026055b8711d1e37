/- A promise stays, whatever is paired: the saying of the case law 20 Part 2. Conditions: none. -/
import Derived.Test.YtbgebljjmpklkaaGreatDoorPartA
set_option linter.unusedSimpArgs false
set_option linter.unusedVariables false
namespace Go.Idl
open Go Go.RowKit
variable {P : Program} {N : Nat} {tm : Tm} {H : A2}
def AT (x : Option (Prop × IV)) (H : A2) : Option (Prop × IV × A2) :=
  match x with
  | some (s, r) => some (s, r, H)
  | none => none
def AF (x : Option (Prop × IV × A2)) (K : IV → A2 → Prop) (alt : Prop) : Prop :=
  match x with
  | some (s, r, H) => s ∧ K r H
  | none => alt
def CZ (x : Option (FuncId × List IV)) (A : FuncId → List IV → Prop) (alt : Prop) : Prop :=
  match x with
  | some (f, cap) => A f cap
  | none => alt
def ldX (P : Program) (H : A2) (t : TypeId) (x : IV) : Option (Prop × IV) :=
  match x with
  | .p k off => ldN P H t (.p k off)
  | .pr k n off => ldN P H t (.pr k n off)
  | y => ldP P t y
def stX (P : Program) (H : A2) (t : TypeId) (x y : IV) : Option (Prop × IV × A2) :=
  match x with
  | .p k off =>
    match H.obj k, AK y with
    | some (.cells cs), some vc => some (AP (vc.length = P.cellsOf t) ∧ AP (0 < P.cellsOf t) ∧ AP (off + vc.length ≤ cs.length), .v undef, H.set k (.cells (D2 cs vc off)))
    | some (.ty T (.cells cs)), some vc => some (AP (vc.length = P.cellsOf t) ∧ AP (0 < P.cellsOf t) ∧ AP (off + vc.length ≤ cs.length), .v undef, H.set k (.ty T (.cells (D2 cs vc off))))
    | _, _ => none
  | .pr k n off =>
    match H.obj k, AK y with
    | some (.row sz es), some vc => some (AP (es.length = n) ∧ AP (vc.length = P.cellsOf t) ∧ AP (0 < P.cellsOf t) ∧ AP (off % sz + vc.length ≤ sz) ∧ AP (off < es.length * sz), .v undef, H.set k (.row sz (Cv sz es vc off)))
    | _, _ => none
  | _ => none
def ixX (P : Program) (H : A2) (t : TypeId) (x i : IV) : Option (Prop × IV) :=
  match x with
  | .os k n =>
    match P.underlying t, H.obj k, i with
    | some (.slice e), some (.row _ es), .v (.int _ m) => some (AP (es.length = n) ∧ AP (0 < P.cellsOf e) ∧ AP (0 ≤ m) ∧ AP (m < n), .pr k n (m.toNat * P.cellsOf e))
    | _, _, _ => none
  | y => ixP P (P.underlying t) y i
def alX (P : Program) (H : A2) (t : TypeId) : Option (Prop × IV × A2) :=
  match zeroOf P t with
  | some z => if z.cells.toList.all (·.oneCell') = true then some (True, .p H.next 0, H.new (tyB P t (.cells (z.cells.toList.map .v)))) else none
  | none => none
def bxX (H : A2) (x : IV) : Option (Prop × IV × A2) :=
  match AK x with
  | some cs => some (True, .p H.next 0, H.new (.cells cs))
  | none => none
def bzI (n : Nat) (x : Option (Nat × List IV)) : Option (Prop × IV) :=
  match x with
  | some (sz, rs) => some (True, .sl sz (chunks sz n rs))
  | none => none
def cmX (P : Program) (H : A2) (b : Builtin) (l ts : List IV) (ats : List TypeId) : Option (Prop × IV × A2) :=
  match b, l, ats with
  | .delete, [x, i], [t, _] => dlX P H t x i
  | .len, [x], [t] => match El (P.underlying t) x with | some (s, r) => some (s, r, H) | none => AT (lnX P H t x) H
  | _, _, _ => none
def efX (P : Program) (H : A2) (tm : Tm) (op : Op) : Option (Prop × IV × A2) :=
  match op with
  | .alloc t => alX P H t
  | .box _ x => bxX H (ev tm x)
  | .load t x => AT (ldX P H t (ev tm x)) H
  | .store t x y => stX P H t (ev tm x) (ev tm y)
  | .indexAddr t x i => AT (ixX P H t (ev tm x) (ev tm i)) H
  | .buildSlice t (n + 1) ps => AT (bzI (n + 1) (bsI P t (n + 1) (ps.toList.map fun q => (q.1, ev tm q.2)))) H
  | .lookup t x i ok => AT (lkX P H t (ev tm x) (ev tm i) ok) H
  | .mapUpdate t x i y => muX P H t (ev tm x) (ev tm i) (ev tm y)
  | .insert t x i y => muX P H t (ev tm x) (ev tm i) (ev tm y)
  | .makeMap _ none => some (True, .mp H.next, H.new (.map []))
  | .call ⟨.builtin b, l, ats⟩ => cmX P H b (l.toList.map (ev tm)) [] ats.toList
  | op => AT (evP P tm op) H
theorem Ib {o : Oper} {K : IV → A2 → Prop} {Qp : List PanicEntry → A2 → Prop} {t : TypeId} {x : Operand} {s : Prop} {r : IV} (ho : o.op = .load t x) (hok : okO N o = true)
    (h : ldX P H t (ev tm x) = some (s, r)) (hs : s) (hk : K r H) : Az P N o tm H K Qp := by
 have alt : ldP P t (ev tm x) = some (s, r) → Az P N o tm H K Qp := fun h => Cu hok (by rw [ho]; exact h) hs hk; cases hx : ev tm x <;> rw [hx] at h alt
 case p k off => exact J4 ho hok (by rw [hx]; exact h) hs hk
 case pr k n off => exact J4 ho hok (by rw [hx]; exact h) hs hk
 all_goals exact alt h
theorem Hq {o : Oper} {K : IV → A2 → Prop} {Qp : List PanicEntry → A2 → Prop} {s : Prop} {r : IV} {H' : A2} (hok : okO N o = true) (h : efX P H tm o.op = some (s, r, H')) (hs : s) (hk : K r H') : Az P N o tm H K Qp := by
 have pure' : AT (evP P tm o.op) H = some (s, r, H') → Az P N o tm H K Qp := by
  intro h; unfold AT at h; split at h
  ·rename_i s' r' he; simp only [Option.some.injEq, Prod.mk.injEq] at h; obtain ⟨rfl, rfl, rfl⟩ := h; exact Cu hok he hs hk
  ·cases h
 cases ho : o.op <;> rw [ho] at h pure'
 case alloc t =>
  simp only [efX, alX] at h; split at h
  ·rename_i z hz; split at h
   ·rename_i hone; simp only [Option.some.injEq, Prod.mk.injEq] at h; obtain ⟨_, rfl, rfl⟩ := h; exact MU ho hz hone hk
   ·cases h
  ·cases h
 case box t x =>
  simp only [efX, bxX] at h; split at h
  ·rename_i cs hc; simp only [Option.some.injEq, Prod.mk.injEq] at h; obtain ⟨_, rfl, rfl⟩ := h; exact QD ho hok hc hk
  ·cases h
 case load t x =>
  simp only [efX, AT] at h; split at h
  ·rename_i s' r' hl; simp only [Option.some.injEq, Prod.mk.injEq] at h; obtain ⟨rfl, rfl, rfl⟩ := h; exact Ib ho hok hl hs hk
  ·cases h
 case store t x y =>
  simp only [efX, stX] at h; split at h
  ·rename_i k off hx; split at h
   ·rename_i cs vc hk' hv; simp only [Option.some.injEq, Prod.mk.injEq] at h; obtain ⟨rfl, rfl, rfl⟩ := h; exact MW ho hok hx hk' hv hs.1 hs.2.1 hs.2.2 hk
   ·rename_i T cs vc hk' hv; simp only [Option.some.injEq, Prod.mk.injEq] at h; obtain ⟨rfl, rfl, rfl⟩ := h; exact LD ho hok hx hk' hv hs.1 hs.2.1 hs.2.2 hk
   ·cases h
  ·rename_i k n off hx; split at h
   ·rename_i sz es vc hk' hv; simp only [Option.some.injEq, Prod.mk.injEq] at h; obtain ⟨rfl, rfl, rfl⟩ := h; exact LF ho hok hx hk' hs.1 hv hs.2.1 hs.2.2.1 hs.2.2.2.1 hs.2.2.2.2 hk
   ·cases h
  ·cases h
 case indexAddr t x i =>
  simp only [efX, AT] at h; split at h
  ·rename_i s' r' hl; simp only [Option.some.injEq, Prod.mk.injEq] at h; obtain ⟨rfl, rfl, rfl⟩ := h; unfold ixX at hl; split at hl
   ·rename_i k n hx; split at hl
    ·rename_i e sz es kk m hu hk' hi; simp only [Option.some.injEq, Prod.mk.injEq] at hl; obtain ⟨rfl, rfl⟩ := hl; exact Oj ho hok hu hx hi hk' hs.1 hs.2.1 hs.2.2.1 hs.2.2.2 hk
    ·cases hl
   ·exact Cu hok (by rw [ho]; exact hl) hs hk
  ·cases h
 case buildSlice t n ps =>
  cases n with
  | zero => exact pure' h
  | succ n =>
   simp only [efX, AT] at h; split at h
   ·rename_i s' r' hl; simp only [Option.some.injEq, Prod.mk.injEq] at h; obtain ⟨rfl, rfl, rfl⟩ := h; unfold bzI at hl; split at hl
    ·rename_i sz rs hb; simp only [Option.some.injEq, Prod.mk.injEq] at hl; obtain ⟨_, rfl⟩ := hl; exact DH ho hok hb hk
    ·cases hl
   ·cases h
 case lookup t x i k =>
  simp only [efX, AT] at h; split at h
  ·rename_i s' r' hl; simp only [Option.some.injEq, Prod.mk.injEq] at h; obtain ⟨rfl, rfl, rfl⟩ := h; exact Gi ho hok hl hs hk
  ·cases h
 case mapUpdate t x i y =>
  simp only [efX] at h; exact Is ho hok h hs hk
 case insert t x i y =>
  simp only [efX] at h; exact LH ho hok h hs hk
 case makeMap t m =>
  cases m with
  | none =>
   simp only [efX, Option.some.injEq, Prod.mk.injEq] at h; obtain ⟨rfl, rfl, rfl⟩ := h; exact Kz ho hk
  | some m => exact pure' h
 case call c =>
  obtain ⟨ce, l, ats⟩ := c; cases ce with
  | builtin b =>
   simp only [efX, cmX] at h; split at h
   ·rename_i x i t t' h1 h2; obtain ⟨ox, oi, rfl, rfl, rfl⟩ : ∃ ox oi, l = #[ox, oi] ∧ ev tm ox = x ∧ ev tm oi = i := by
     obtain ⟨l⟩ := l
     match l, h1 with
     | [p, q], h1 => simp at h1; exact ⟨p, q, rfl, h1.1, h1.2⟩
    have e2 : ats = #[t, t'] := Array.toList_inj.1 h2; subst e2; exact LI ho hok h hs hk
   ·rename_i x t h1 h2; obtain ⟨ox, rfl, rfl⟩ : ∃ ox, l = #[ox] ∧ ev tm ox = x := by
     obtain ⟨l⟩ := l
     match l, h1 with
     | [p], h1 => simp at h1; exact ⟨p, rfl, h1⟩
    have e2 : ats = #[t] := Array.toList_inj.1 h2; subst e2; split at h
    ·rename_i s' r' hl; simp only [Option.some.injEq, Prod.mk.injEq] at h; obtain ⟨rfl, rfl, rfl⟩ := h; exact Cu hok (by rw [ho]; exact hl) hs hk
    ·unfold AT at h; split at h
     ·rename_i s' r' hl; simp only [Option.some.injEq, Prod.mk.injEq] at h; obtain ⟨rfl, rfl, rfl⟩ := h; exact LJ ho hok hl hk
     ·cases h
   ·cases h
  | _ => exact pure' h
 all_goals exact pure' h
def splitB (x : IV) (K : Bool → Prop) : Prop :=
  match x with
  | .v (.bool c) => (c = true → K true) ∧ (c = false → K false)
  | _ => False
def CV (x : IV) (K : Bool → Prop) (sk : Tm → Prop) (tm : Tm) : Prop :=
  match x with
  | .v (.bool c) => (c = true → K true) ∧ (c = false → K false)
  | .v _ => sk tm
  | _ => False
def C_ (c b : Bool) (x y : Prop) : Prop := if c = b then x else y
def BG (P : Program) (N : Nat) (o : Oper) (tm : Tm) (H : A2) (K : IV → A2 → Prop) (Qp : List PanicEntry → A2 → Prop) : Prop :=
  match o.op with
  | .call { callee := .value x, args, .. } => CZ (fnP (ev tm x)) (fun f cap => Ae P f (args.toList.map (ev tm) ++ cap) H (KO K Qp)) (Az P N o tm H K Qp)
  | .call { callee := .builtin .append, args, argTypes, .. } =>
    match args.toList, argTypes.toList with
    | [x, y], [t, t'] => AF (apI P H t t' (ev tm x) (ev tm y)) K (Az P N o tm H K Qp)
    | _, _ => Az P N o tm H K Qp
  | .pick c a b => splitB (ev tm c) fun q => C_ q true (K (ev tm a) H) (K (ev tm b) H)
  | op => AF (efX P H tm op) K (Az P N o tm H K Qp)
theorem E1 {o : Oper} {K : IV → A2 → Prop} {Qp : List PanicEntry → A2 → Prop} (hok : okO N o = true) (h : BG P N o tm H K Qp) : Az P N o tm H K Qp := by
 unfold BG at h; split at h
 ·rename_i x args ats ho; unfold CZ at h; split at h
  ·rename_i f cap hf; exact Ja ho hok hf h
  ·exact h
 ·rename_i args ats ho; split at h
  ·rename_i x y t t' h1 h2; unfold AF at h; split at h
   ·rename_i s r H' he; have e1 : args = #[x, y] := Array.toList_inj.1 h1; have e2 : ats = #[t, t'] := Array.toList_inj.1 h2; subst e1; subst e2; exact Gg ho hok he h.1 h.2
   ·exact h
  ·exact h
 ·rename_i c a b ho; unfold splitB at h; split at h
  ·rename_i q hq; cases q with
   | true =>
    have h2 := h.1 rfl; refine Cu hok (i := ev tm a) (s := True) ?_ trivial (by simpa [C_] using h2); rw [ho]; simp [evP, hq]
   | false =>
    have h2 := h.2 rfl; refine Cu hok (i := ev tm b) (s := True) ?_ trivial (by simpa [C_] using h2); rw [ho]; simp [evP, hq]
  ·exact h.elim
 ·unfold AF at h; split at h
  ·rename_i s r H' he; exact Hq hok he h.1 h.2
  ·exact h
def vcG (full : Array Oper) (o : Oper) (tm : Tm) (run skip : Tm → Prop) : Prop :=
  match o.guard with
  | none => run tm
  | some (j, b) =>
    match (full[j]?).bind (·.dst) with
    | some d => CV (tm d) (fun c => C_ c b (run (upd tm d (.v (.bool c)))) (skip (upd tm d (.v (.bool c))))) skip tm
    | none => False
def CO (P : Program) (N : Nat) (full : Array Oper) : List Oper → (Exit → Tm → A2 → Prop) → Tm → A2 → Prop
  | [], Q, tm, H => Q .normal tm H
  | o :: l, Q, tm, H => vcG full o tm
      (fun tm => BG P N o tm H (fun x H' => CO P N full l Q (Bp tm o.dst x) H') (fun ch H' => Q (.panic ch) tm H'))
      (fun tm => CO P N full l Q (Bp tm o.dst (.v undef)) H)
theorem Gj {d : Nat} {x : IV} (h : tm d = x) : upd tm d x = tm := by
 funext i; unfold upd; split
 ·rename_i e; rw [e, h]
 ·rfl
theorem Et {full : Array Oper} (hok : full.toList.all (okO N) = true) {Q : Exit → Tm → A2 → Prop} : ∀ (l : List Oper) (i : Nat) (tm : Tm) (H : A2), (∀ (j : Nat) (o : Oper), l[j]? = some o → full[i + j]? = some o) →
    CO P N full l Q tm H → IZ P N full (List.range' i l.length) Q tm H
  | [], i, tm, H, _, h => MO h
  | o :: l, i, tm, H, hl, h => by
    have ho : full[i]? = some o := hl 0 o rfl
    have hl' : ∀ (j : Nat) (o : Oper), l[j]? = some o → full[i + 1 + j]? = some o := fun j o' h => by
      have := hl (j + 1) o' (by simpa using h)
      rwa [show i + (j + 1) = i + 1 + j by omega] at this
    have hall := List.all_eq_true.1 hok
    have hoo : okO N o = true := hall o (by rw [Array.mem_toList_iff]; exact Array.mem_of_getElem? ho)
    have run : (∀ (w : World) (g : Gs) (a : Act), RA w g a tm → a.tmps.size = N → Region.wanted o (yielded full a.tmps) = true) →
        BG P N o tm H (fun x H' => CO P N full l Q (Bp tm o.dst x) H') (fun ch H' => Q (.panic ch) tm H') → IZ P N full (i :: List.range' (i + 1) l.length) Q tm H := fun hg h =>
      I_ ho hg ((E1 hoo h).mono (fun x H' h => Et hok l (i + 1) _ _ hl' h) fun _ _ h => h)
    have skip : (∀ (w : World) (g : Gs) (a : Act), RA w g a tm → a.tmps.size = N → Region.wanted o (yielded full a.tmps) = false) →
        CO P N full l Q (Bp tm o.dst (.v undef)) H → IZ P N full (i :: List.range' (i + 1) l.length) Q tm H := fun hg h =>
      Qn ho hg (Et hok l (i + 1) _ _ hl' h)
    show IZ P N full (i :: List.range' (i + 1) l.length) Q tm H
    unfold CO vcG at h
    split at h
    · rename_i hgd
      exact run (fun w g a r hN => by simp [Region.wanted, hgd]) h
    · rename_i j b hgd
      split at h
      · rename_i d hd
        have hdN : d < N := by
          rw [Option.bind_eq_some_iff] at hd
          obtain ⟨o', h1, h2⟩ := hd
          have := hall o' (by rw [Array.mem_toList_iff]; exact Array.mem_of_getElem? h1)
          simp only [okO, h2, Bool.and_eq_true, decide_eq_true_eq] at this
          exact this.2
        unfold CV at h
        split at h
        · rename_i c hc
          have hy : ∀ (w : World) (g : Gs) (a : Act), RA w g a tm → a.tmps.size = N → yielded full a.tmps j = some c := by
            intro w g a r hN
            have h1 := r d (by rw [hN]; exact hdN)
            rw [hc] at h1
            have h2 := h1.v_eq
            have h3 : a.tmps[d]? = some (.bool c) := by
              have hlt : d < a.tmps.size := by rw [hN]; exact hdN
              rw [Array.getElem?_eq_getElem hlt]
              simpa [hlt] using h2
            simp [yielded, hd, h3]
          have hw : ∀ (w : World) (g : Gs) (a : Act), RA w g a tm → a.tmps.size = N → Region.wanted o (yielded full a.tmps) = (c == b) := by
            intro w g a r hN
            simp [Region.wanted, hgd, hy w g a r hN]
          have key : C_ c b (BG P N o tm H (fun x H' => CO P N full l Q (Bp tm o.dst x) H') (fun ch H' => Q (.panic ch) tm H')) (CO P N full l Q (Bp tm o.dst (.v undef)) H) := by
            cases c with
            | true =>
              have := h.1 rfl
              dsimp only at this
              rwa [Gj hc] at this
            | false =>
              have := h.2 rfl
              dsimp only at this
              rwa [Gj hc] at this
          unfold C_ at key
          split at key
          · rename_i e
            exact run (fun w g a r hN => by rw [hw w g a r hN]; simp [e]) key
          · rename_i e
            exact skip (fun w g a r hN => by rw [hw w g a r hN]; simp [e]) key
        · rename_i y hne hc
          refine skip (fun w g a r hN => ?_) h
          have h1 := r d (by rw [hN]; exact hdN)
          rw [hc] at h1
          have h2 := h1.v_eq
          have hlt : d < a.tmps.size := by rw [hN]; exact hdN
          have h3 : a.tmps[d]? = some y := by
            rw [Array.getElem?_eq_getElem hlt]
            simpa [hlt] using h2
          have h4 : yielded full a.tmps j = none := by
            simp only [yielded, hd, Option.bind_some, h3]
            split
            · rename_i c e
              cases e
              exact (hne c rfl).elim
            · rfl
          simp [Region.wanted, hgd, h4]
        · exact h.elim
      · exact h.elim
def M_ (x : IV) (a b : Prop) : Prop :=
  match x with
  | .v (.bool c) => (c = true → a) ∧ (c = false → b)
  | _ => False
def Ot (P : Program) (N : Nat) (c : Code) (Q : Exit → Tm → A2 → Prop) (tm : Tm) (H : A2) : Prop :=
  ∃ (I : Tm → A2 → Prop) (μ : Tm → A2 → Nat), UpI I tm H ∧ ∀ tm H, I tm H → IWp P N c (Cr (Up I μ (μ tm H)) Q) tm H
def vc (P : Program) (N : Nat) : Code → (Exit → Tm → A2 → Prop) → Tm → A2 → Prop
  | .skip, Q, tm, H => Q .normal tm H
  | .label _, Q, tm, H => Q .normal tm H
  | .exit id, Q, tm, H => Q (.exit id) tm H
  | .goto l, Q, tm, H => Q (.goto l) tm H
  | .ret, Q, tm, H => Q .ret tm H
  | .seq a b, Q, tm, H => vc P N a (Cr (vc P N b Q) Q) tm H
  | .region id ops draw, Q, tm, H => match draw with | true => IWp P N (.region id ops true) Q tm H | false => CO P N ops ops.toList Q tm H
  | .cond c x y, Q, tm, H => M_ (ev tm c) (vc P N x Q tm H) (vc P N y Q tm H)
  | .block id c, Q, tm, H => vc P N c (D6 id Q) tm H
  | .loop c, Q, tm, H => Ot P N c Q tm H
  | c, Q, tm, H => IWp P N c Q tm H
def It (N : Nat) : Code → Bool
  | .seq a b => It N a && It N b
  | .region _ ops draw => match draw with | true => true | false => ops.toList.all (okO N)
  | .cond c x y => opd N c && It N x && It N y
  | .block _ c => It N c
  | .loop c => It N c
  | _ => true
theorem AA : ∀ (c : Code), It N c = true → ∀ (Q : Exit → Tm → A2 → Prop) (tm : Tm) (H : A2), vc P N c Q tm H → IWp P N c Q tm H
  | .skip, _, Q, tm, H, h => RV h
  | .label _, _, Q, tm, H, h => Qm h
  | .exit _, _, Q, tm, H, h => RW h
  | .goto _, _, Q, tm, H, h => RX h
  | .ret, _, Q, tm, H, h => UE h
  | .seq a b, hf, Q, tm, H, h => by
    simp only [It, Bool.and_eq_true] at hf
    refine Lw ((AA a hf.1 _ tm H h).mono fun e tm' H' q => ?_)
    cases e with
    | normal => exact AA b hf.2 Q tm' H' q
    | _ => exact q
  | .region id ops true, _, Q, tm, H, h => h
  | .region id ops false, hf, Q, tm, H, h => by
    refine J0 ?_
    have := Et (full := ops) hf ops.toList 0 tm H (fun j o ho => by simpa using ho) h
    rwa [List.range_eq_range', ← Array.length_toList]
  | .cond c x y, hf, Q, tm, H, h => by
    simp only [It, Bool.and_eq_true] at hf
    unfold vc M_ at h
    split at h
    · rename_i b hb
      exact Ga hb hf.1.1 (fun e => AA x hf.1.2 Q tm H (h.1 e)) (fun e => AA y hf.2 Q tm H (h.2 e))
    · exact h.elim
  | .block id c, hf, Q, tm, H, h => Am (AA c hf _ tm H h)
  | .loop c, hf, Q, tm, H, ⟨I, μ, h0, h1⟩ => QF I μ h0 h1
  | .rangeFunc .., _, Q, tm, H, h => h
  | .scope _, _, Q, tm, H, h => h
  | .refuse _, _, Q, tm, H, h => h
theorem LK {f : FuncId} {fn : Func} {c : Code} {args : List IV} {Q : Aw → A2 → Prop} (hf : P.funcs[f]? = some fn) (hbd : Bi P f = true) (hb : fn.body = some c) (hN : fn.ntmps = N)
    (hn : (args.length ≤ N ∧ fn.results.toList.all (rvN N) = true ∧ It N c = true))
    (h : H.Wf → vc P N c (Om P fn.results.toList H Q) (tm0 args) H) : Ae P f args H Q := by
 subst hN; exact Fu hbd hf hb hn.1 hn.2.1 fun hw => AA c hn.2.2 _ _ _ (h hw)
end Go.Idl
namespace Go.Idl
open Go Go.RowKit
variable {P : Program} {N : Nat} {tm : Tm} {H : A2}
def KP (x : IV) (a b : Tm → A2 → Prop) (tm : Tm) (H : A2) : Prop := M_ x (a tm H) (b tm H)
def PF (P : Program) (N : Nat) (full : Array Oper) (l : List Oper) (Q : Exit → Tm → A2 → Prop) (d : Option Tmp) (tm : Tm) : IV → A2 → Prop := fun x H' => CO P N full l Q (Bp tm d x) H'
def Ou (Q : Exit → Tm → A2 → Prop) (tm : Tm) : List PanicEntry → A2 → Prop := fun ch H' => Q (.panic ch) tm H'
def Xn (P : Program) (N : Nat) (full : Array Oper) (o : Oper) (l : List Oper) (Q : Exit → Tm → A2 → Prop) (H : A2) : Tm → Prop := fun tm => BG P N o tm H (PF P N full l Q o.dst tm) (Ou Q tm)
def Sa (P : Program) (N : Nat) (full : Array Oper) (d : Option Tmp) (l : List Oper) (Q : Exit → Tm → A2 → Prop) (H : A2) : Tm → Prop := fun tm => CO P N full l Q (Bp tm d (.v undef)) H
def DA (b : Bool) (d : Tmp) (tm : Tm) (run skip : Tm → Prop) : Bool → Prop := fun c => C_ c b (run (upd tm d (.v (.bool c)))) (skip (upd tm d (.v (.bool c))))
def N0 (K : IV → A2 → Prop) (x y : IV) (H : A2) : Bool → Prop := fun q => C_ q true (K x H) (K y H)
def N1 (P : Program) (args : List IV) (H : A2) (K : IV → A2 → Prop) (Qp : List PanicEntry → A2 → Prop) : FuncId → List IV → Prop := fun f cap => Ae P f (args ++ cap) H (KO K Qp)
section
variable {Q : Exit → Tm → A2 → Prop}
@[go_sem] theorem fC : vc P N .skip Q tm H = Q .normal tm H := rfl
@[go_sem] theorem bl {l : Nat} : vc P N (.label l) Q tm H = Q .normal tm H := rfl
@[go_sem] theorem fD {l : Nat} : vc P N (.exit l) Q tm H = Q (.exit l) tm H := rfl
@[go_sem] theorem fE {l : Nat} : vc P N (.goto l) Q tm H = Q (.goto l) tm H := rfl
@[go_sem] theorem iO : vc P N .ret Q tm H = Q .ret tm H := rfl
@[go_sem] theorem iP {a b : Code} : vc P N (.seq a b) Q tm H = vc P N a (Cr (vc P N b Q) Q) tm H := rfl
@[go_sem] theorem ZN {id : Nat} {l : List Oper} : vc P N (.region id ⟨l⟩ false) Q tm H = CO P N ⟨l⟩ l Q tm H := rfl
@[go_sem] theorem fF {id : Nat} {l : Array Oper} : vc P N (.region id l true) Q tm H = IWp P N (.region id l true) Q tm H := rfl
@[go_sem] theorem fG {c : Operand} {x y : Code} : vc P N (.cond c x y) Q tm H = KP (ev tm c) (vc P N x Q) (vc P N y Q) tm H := rfl
@[go_sem] theorem bn {id : Nat} {c : Code} : vc P N (.block id c) Q tm H = vc P N c (D6 id Q) tm H := rfl
@[go_sem] theorem fH {c : Code} : vc P N (.loop c) Q tm H = Ot P N c Q tm H := rfl
@[go_sem] theorem UM {f : Operand} {ps : Array Tmp} {a b : Code} : vc P N (.rangeFunc f ps a b) Q tm H = IWp P N (.rangeFunc f ps a b) Q tm H := rfl
@[go_sem] theorem bp {c : Code} : vc P N (.scope c) Q tm H = IWp P N (.scope c) Q tm H := rfl
variable {K : Tm → A2 → Prop}
@[go_sem] theorem UN : Cr K Q .normal tm H = K tm H := rfl
@[go_sem] theorem Xo {l : Nat} : Cr K Q (.exit l) tm H = Q (.exit l) tm H := rfl
@[go_sem] theorem Xp {l : Nat} : Cr K Q (.goto l) tm H = Q (.goto l) tm H := rfl
@[go_sem] theorem ZO : Cr K Q .ret tm H = Q .ret tm H := rfl
@[go_sem] theorem Wq {c : List PanicEntry} : Cr K Q (.panic c) tm H = Q (.panic c) tm H := rfl
@[go_sem] theorem Uy {id : Nat} : D6 id Q .normal tm H = Q .normal tm H := rfl
@[go_sem] theorem Wr {id : Nat} : D6 id Q (.exit id) tm H = Q .normal tm H := by simp [D6]
@[go_sem] theorem Ws {id l : Nat} : D6 id Q (.goto l) tm H = Q (.goto l) tm H := rfl
@[go_sem] theorem Xq {id : Nat} : D6 id Q .ret tm H = Q .ret tm H := rfl
@[go_sem] theorem UO {id : Nat} {c : List PanicEntry} : D6 id Q (.panic c) tm H = Q (.panic c) tm H := rfl
@[go_sem] theorem ZP {full : Array Oper} : CO P N full [] Q tm H = Q .normal tm H := rfl
@[go_sem] theorem Xr {full : Array Oper} {d : Option Tmp} {op : Op} {t : TypeId} {p : String} {af : Array Edge} {l : List Oper} :
    CO P N full (⟨d, op, t, p, af, none⟩ :: l) Q tm H = BG P N ⟨d, op, t, p, af, none⟩ tm H (PF P N full l Q d tm) (Ou Q tm) := rfl
@[go_sem] theorem ZQ {full : Array Oper} {l : List Oper} {d : Option Tmp} {x : IV} : PF P N full l Q d tm x H = CO P N full l Q (Bp tm d x) H := rfl
@[go_sem] theorem bq {c : List PanicEntry} : Ou Q tm c H = Q (.panic c) tm H := rfl
def N2 (l : List Oper) (j : Nat) : Option Tmp := (l[j]?).bind (·.dst)
def vcH (d : Option Tmp) (b : Bool) (tm : Tm) (run skip : Tm → Prop) : Prop :=
  match d with
  | some d => CV (tm d) (DA b d tm run skip) skip tm
  | none => False
@[go_sem] theorem Wt {full : List Oper} {d : Option Tmp} {op : Op} {t : TypeId} {p : String} {af : Array Edge} {j : Nat} {b : Bool} {l : List Oper} :
    CO P N ⟨full⟩ (⟨d, op, t, p, af, some (j, b)⟩ :: l) Q tm H = vcH (N2 full j) b tm (Xn P N ⟨full⟩ ⟨d, op, t, p, af, some (j, b)⟩ l Q H) (Sa P N ⟨full⟩ d l Q H) := by
 show vcG ⟨full⟩ ⟨d, op, t, p, af, some (j, b)⟩ tm (Xn P N ⟨full⟩ ⟨d, op, t, p, af, some (j, b)⟩ l Q H) (Sa P N ⟨full⟩ d l Q H) = vcH ((full[j]?).bind (·.dst)) b tm _ _; unfold vcG vcH; simp only [List.getElem?_toArray]; cases (full[j]?).bind (·.dst) <;> rfl
@[go_sem] theorem bt {full : Array Oper} {o : Oper} {l : List Oper} : Xn P N full o l Q H tm = BG P N o tm H (PF P N full l Q o.dst tm) (Ou Q tm) := rfl
@[go_sem] theorem ZR {full : Array Oper} {d : Option Tmp} {l : List Oper} : Sa P N full d l Q H tm = CO P N full l Q (Bp tm d (.v undef)) H := rfl
end
@[go_sem] theorem Xs {o : Oper} {l : List Oper} : N2 (o :: l) 0 = o.dst := rfl
@[go_sem] theorem Xt {o : Oper} {l : List Oper} {j : Nat} : N2 (o :: l) (j + 1) = N2 l j := rfl
@[go_sem] theorem bu {d : Tmp} {b : Bool} {run skip : Tm → Prop} : vcH (some d) b tm run skip = CV (tm d) (DA b d tm run skip) skip tm := rfl
@[go_sem] theorem ZS {d : Tmp} {run skip : Tm → Prop} : DA true d tm run skip true = run (upd tm d (.v (.bool true))) := by simp [DA, C_]
@[go_sem] theorem ZT {d : Tmp} {run skip : Tm → Prop} : DA true d tm run skip false = skip (upd tm d (.v (.bool false))) := by simp [DA, C_]
@[go_sem] theorem ZU {d : Tmp} {run skip : Tm → Prop} : DA false d tm run skip true = skip (upd tm d (.v (.bool true))) := by simp [DA, C_]
@[go_sem] theorem ZV {d : Tmp} {run skip : Tm → Prop} : DA false d tm run skip false = run (upd tm d (.v (.bool false))) := by simp [DA, C_]
@[go_sem] theorem Xu {K : IV → A2 → Prop} {x y : IV} : N0 K x y H true = K x H := by simp [N0, C_]
@[go_sem] theorem Wu {K : IV → A2 → Prop} {x y : IV} : N0 K x y H false = K y H := by simp [N0, C_]
@[go_sem] theorem ZW {args cap : List IV} {K : IV → A2 → Prop} {Qp : List PanicEntry → A2 → Prop} {f : FuncId} : N1 P args H K Qp f cap = Ae P f (args ++ cap) H (KO K Qp) := rfl
@[go_sem] theorem Wv {K : Bool → Prop} {sk : Tm → Prop} : CV (.v (.bool true)) K sk tm = K true := by simp [CV]
@[go_sem] theorem UP {K : Bool → Prop} {sk : Tm → Prop} : CV (.v (.bool false)) K sk tm = K false := by simp [CV]
@[go_sem] theorem UQ {K : Bool → Prop} {sk : Tm → Prop} : CV (.v undef) K sk tm = sk tm := rfl
theorem E2 {c : Bool} {K : Bool → Prop} {sk : Tm → Prop} (h1 : c = true → K true) (h2 : c = false → K false) : CV (.v (.bool c)) K sk tm := ⟨h1, h2⟩
@[go_sem] theorem Ww {K : Bool → Prop} : splitB (.v (.bool true)) K = K true := by simp [splitB]
@[go_sem] theorem UR {K : Bool → Prop} : splitB (.v (.bool false)) K = K false := by simp [splitB]
@[go_sem] theorem Xv {a b : Tm → A2 → Prop} : KP (.v (.bool true)) a b tm H = a tm H := by simp [KP, M_]
@[go_sem] theorem Wx {a b : Tm → A2 → Prop} : KP (.v (.bool false)) a b tm H = b tm H := by simp [KP, M_]
@[go_sem] theorem Xw {s : Prop} {r : IV} {K : IV → A2 → Prop} {alt : Prop} : AF (some (s, r, H)) K alt = (s ∧ K r H) := rfl
@[go_sem] theorem Xx {K : IV → A2 → Prop} {alt : Prop} : AF none K alt = alt := rfl
@[go_sem] theorem Xy {f : FuncId} {cap : List IV} {A : FuncId → List IV → Prop} {alt : Prop} : CZ (some (f, cap)) A alt = A f cap := rfl
@[go_sem] theorem Xz {A : FuncId → List IV → Prop} {alt : Prop} : CZ none A alt = alt := rfl
@[go_sem] theorem XA {s : Prop} {r : IV} : AT (some (s, r)) H = some (s, r, H) := rfl
@[go_sem] theorem XB : AT none H = none := rfl
@[go_sem] theorem ZX {K : IV → A2 → Prop} {Qp : List PanicEntry → A2 → Prop} {r : IV} : KO K Qp (.ret r) H = K r H := rfl
@[go_sem] theorem ZY {K : IV → A2 → Prop} {Qp : List PanicEntry → A2 → Prop} {c : List PanicEntry} : KO K Qp (.pan c) H = Qp c H := rfl
@[go_sem] theorem ZZ {d : Nat} {x : IV} : Bp tm (some d) x = upd tm d x := rfl
@[go_sem] theorem Z_ {x : IV} : Bp tm none x = tm := rfl
@[go_sem] theorem fI {d i : Nat} {x : IV} : upd tm d x i = if i = d then x else tm i := rfl
@[go_sem] theorem iQ {t : Tmp} : ev tm (.tmp t) = tm t := rfl
@[go_sem] theorem bw {x : Value} : ev tm (.const x) = .v x := rfl
@[go_sem] theorem fJ {f : FuncId} : ev tm (.func f) = .v (.func (.func f) #[] #[]) := rfl
@[go_sem] theorem ah {g : Nat} : ev tm (.global g) = .v (.pointer (some ⟨g, 0, none⟩)) := rfl
section
variable {d : Option Tmp} {t : TypeId} {p : String} {af : Array Edge} {gd : Option (Nat × Bool)} {K : IV → A2 → Prop} {Qp : List PanicEntry → A2 → Prop}
@[go_sem] theorem aj {x : Operand} {l : List Operand} {ats : Array TypeId} : BG P N ⟨d, .call ⟨.value x, ⟨l⟩, ats⟩, t, p, af, gd⟩ tm H K Qp =
    CZ (fnP (ev tm x)) (N1 P (l.map (ev tm)) H K Qp) (Az P N ⟨d, .call ⟨.value x, ⟨l⟩, ats⟩, t, p, af, gd⟩ tm H K Qp) := rfl
@[go_sem] theorem Wy {x y : Operand} {a b : TypeId} : BG P N ⟨d, .call ⟨.builtin .append, #[x, y], #[a, b]⟩, t, p, af, gd⟩ tm H K Qp =
    AF (apI P H a b (ev tm x) (ev tm y)) K (Az P N ⟨d, .call ⟨.builtin .append, #[x, y], #[a, b]⟩, t, p, af, gd⟩ tm H K Qp) := rfl
def US (a b : Option (Prop × IV)) : Option (Prop × IV) := match a with | some r => some r | none => b
@[go_sem] theorem ak {p : Prop × IV} {b : Option (Prop × IV)} : US (some p) b = some p := rfl
@[go_sem] theorem an {b : Option (Prop × IV)} : US none b = b := rfl
@[go_sem] theorem bz {x : Operand} {a : TypeId} : BG P N ⟨d, .call ⟨.builtin .len, #[x], #[a]⟩, t, p, af, gd⟩ tm H K Qp =
    AF (AT (US (El (P.underlying a) (ev tm x)) (lnX P H a (ev tm x))) H) K (Az P N ⟨d, .call ⟨.builtin .len, #[x], #[a]⟩, t, p, af, gd⟩ tm H K Qp) := by
 show AF (cmX P H .len [ev tm x] [] [a]) K _ = _; congr 1; unfold cmX US; simp only; cases El (P.underlying a) (ev tm x) <;> rfl
@[go_sem] theorem Wz {x y : Operand} {a b : TypeId} : BG P N ⟨d, .call ⟨.builtin .delete, #[x, y], #[a, b]⟩, t, p, af, gd⟩ tm H K Qp =
    AF (dlX P H a (ev tm x) (ev tm y)) K (Az P N ⟨d, .call ⟨.builtin .delete, #[x, y], #[a, b]⟩, t, p, af, gd⟩ tm H K Qp) := rfl
@[go_sem] theorem WA {x y : Operand} {a : TypeId} {ok : Bool} : BG P N ⟨d, .lookup a x y ok, t, p, af, gd⟩ tm H K Qp =
    AF (AT (lkX P H a (ev tm x) (ev tm y) ok) H) K (Az P N ⟨d, .lookup a x y ok, t, p, af, gd⟩ tm H K Qp) := rfl
@[go_sem] theorem Sb {x y z : Operand} {a : TypeId} : BG P N ⟨d, .mapUpdate a x y z, t, p, af, gd⟩ tm H K Qp =
    AF (muX P H a (ev tm x) (ev tm y) (ev tm z)) K (Az P N ⟨d, .mapUpdate a x y z, t, p, af, gd⟩ tm H K Qp) := rfl
@[go_sem] theorem WB {x y z : Operand} {a : TypeId} : BG P N ⟨d, .insert a x y z, t, p, af, gd⟩ tm H K Qp =
    AF (muX P H a (ev tm x) (ev tm y) (ev tm z)) K (Az P N ⟨d, .insert a x y z, t, p, af, gd⟩ tm H K Qp) := rfl
@[go_sem] theorem UT {a : TypeId} : BG P N ⟨d, .makeMap a none, t, p, af, gd⟩ tm H K Qp =
    AF (some (True, .mp H.next, H.new (.map []))) K (Az P N ⟨d, .makeMap a none, t, p, af, gd⟩ tm H K Qp) := rfl
@[go_sem] theorem aq {x : Operand} : BG P N ⟨d, .move x, t, p, af, gd⟩ tm H K Qp = K (ev tm x) H := true_and _
@[go_sem] theorem WC {x : Operand} : BG P N ⟨d, .assign x, t, p, af, gd⟩ tm H K Qp = K (ev tm x) H := true_and _
@[go_sem] theorem XC {a : TypeId} : BG P N ⟨d, .alloc a, t, p, af, gd⟩ tm H K Qp = AF (alX P H a) K (Az P N ⟨d, .alloc a, t, p, af, gd⟩ tm H K Qp) := rfl
@[go_sem] theorem bA {a : TypeId} {x : Operand} : BG P N ⟨d, .box a x, t, p, af, gd⟩ tm H K Qp = AF (bxX H (ev tm x)) K (Az P N ⟨d, .box a x, t, p, af, gd⟩ tm H K Qp) := rfl
@[go_sem] theorem au {a : TypeId} {x : Operand} : BG P N ⟨d, .load a x, t, p, af, gd⟩ tm H K Qp = AF (AT (ldX P H a (ev tm x)) H) K (Az P N ⟨d, .load a x, t, p, af, gd⟩ tm H K Qp) := rfl
@[go_sem] theorem XD {a : TypeId} {x y : Operand} : BG P N ⟨d, .store a x y, t, p, af, gd⟩ tm H K Qp = AF (stX P H a (ev tm x) (ev tm y)) K (Az P N ⟨d, .store a x y, t, p, af, gd⟩ tm H K Qp) := rfl
@[go_sem] theorem Sc {a : TypeId} {x y : Operand} : BG P N ⟨d, .indexAddr a x y, t, p, af, gd⟩ tm H K Qp = AF (AT (ixX P H a (ev tm x) (ev tm y)) H) K (Az P N ⟨d, .indexAddr a x y, t, p, af, gd⟩ tm H K Qp) := rfl
@[go_sem] theorem ay {c a b : Operand} : BG P N ⟨d, .pick c a b, t, p, af, gd⟩ tm H K Qp = splitB (ev tm c) (N0 K (ev tm a) (ev tm b) H) := rfl
@[go_sem] theorem XE {a : TypeId} {l : List (Nat × Operand)} : BG P N ⟨d, .build a ⟨l⟩, t, p, af, gd⟩ tm H K Qp = AF (AT (bdP P a (l.map fun q => (q.1, ev tm q.2))) H) K (Az P N ⟨d, .build a ⟨l⟩, t, p, af, gd⟩ tm H K Qp) := rfl
@[go_sem] theorem bB {n sz : Nat} {rs : List IV} : bzI n (some (sz, rs)) = some (True, .sl sz (chunks sz n rs)) := rfl
@[go_sem] theorem RP {a : TypeId} {n : Nat} {l : List (Nat × Operand)} : BG P N ⟨d, .buildSlice a (n + 1) ⟨l⟩, t, p, af, gd⟩ tm H K Qp = AF (AT (bzI (n + 1) (bsI P a (n + 1) (l.map fun q => (q.1, ev tm q.2)))) H) K (Az P N ⟨d, .buildSlice a (n + 1) ⟨l⟩, t, p, af, gd⟩ tm H K Qp) := rfl
@[go_sem] theorem RQ {a : TypeId} {l : List (Nat × Operand)} : BG P N ⟨d, .buildSlice a 0 ⟨l⟩, t, p, af, gd⟩ tm H K Qp = Az P N ⟨d, .buildSlice a 0 ⟨l⟩, t, p, af, gd⟩ tm H K Qp := rfl
@[go_sem] theorem Uz {x : Operand} : BG P N ⟨d, .nilCheck x, t, p, af, gd⟩ tm H K Qp = AF (AT (ncP (ev tm x)) H) K (Az P N ⟨d, .nilCheck x, t, p, af, gd⟩ tm H K Qp) := rfl
@[go_sem] theorem XF {op : BinOp} {a b : TypeId} {x y : Operand} : BG P N ⟨d, .binOp op a x y b, t, p, af, gd⟩ tm H K Qp = AF (AT (Of P op a tm x y) H) K (Az P N ⟨d, .binOp op a x y b, t, p, af, gd⟩ tm H K Qp) := rfl
@[go_sem] theorem az {op : UnOp} {a : TypeId} {x : Operand} : BG P N ⟨d, .unOp op a x, t, p, af, gd⟩ tm H K Qp = AF (AT (unP op (ev tm x)) H) K (Az P N ⟨d, .unOp op a x, t, p, af, gd⟩ tm H K Qp) := rfl
@[go_sem] theorem UU {a b : TypeId} {x : Operand} : BG P N ⟨d, .convert a b x, t, p, af, gd⟩ tm H K Qp = AF (AT (cvP P a b (ev tm x)) H) K (Az P N ⟨d, .convert a b x, t, p, af, gd⟩ tm H K Qp) := rfl
@[go_sem] theorem Ov {a : TypeId} {x : Operand} : BG P N ⟨d, .makeInterface a x, t, p, af, gd⟩ tm H K Qp = AF (AT (mkP P a (ev tm x)) H) K (Az P N ⟨d, .makeInterface a x, t, p, af, gd⟩ tm H K Qp) := rfl
@[go_sem] theorem UA {f : Fn} {x y : List Operand} : BG P N ⟨d, .makeFunc f ⟨x⟩ ⟨y⟩, t, p, af, gd⟩ tm H K Qp = K (.fn f (x.map (ev tm)) (y.map (ev tm))) H := true_and _
@[go_sem] theorem XG {a : TypeId} {x : Operand} {lo hi mx : Option Operand} : BG P N ⟨d, .slice a x lo hi mx, t, p, af, gd⟩ tm H K Qp =
    AF (AT (slP P (P.underlying a) (ev tm x) (lo.map (ev tm)) (hi.map (ev tm)) (mx.map (ev tm))) H) K (Az P N ⟨d, .slice a x lo hi mx, t, p, af, gd⟩ tm H K Qp) := rfl
@[go_sem] theorem Sd {a : TypeId} {x : Operand} {f : Nat} : BG P N ⟨d, .fieldAddr a x f, t, p, af, gd⟩ tm H K Qp = AF (AT (fdP P (P.underlying a) (ev tm x) f) H) K (Az P N ⟨d, .fieldAddr a x f, t, p, af, gd⟩ tm H K Qp) := rfl
@[go_sem] theorem XH {a : TypeId} {x : Operand} {f : Nat} : BG P N ⟨d, .field a x f, t, p, af, gd⟩ tm H K Qp = AF (AT (fvP P (P.underlying a) (ev tm x) f) H) K (Az P N ⟨d, .field a x f, t, p, af, gd⟩ tm H K Qp) := rfl
@[go_sem] theorem XI {a : TypeId} {x y : Operand} : BG P N ⟨d, .index a x y, t, p, af, gd⟩ tm H K Qp = AF (AT (ivP P (P.underlying a) (ev tm x) (ev tm y)) H) K (Az P N ⟨d, .index a x y, t, p, af, gd⟩ tm H K Qp) := rfl
@[go_sem] theorem UW {x : Operand} {n : Nat} : BG P N ⟨d, .extract x n, t, p, af, gd⟩ tm H K Qp = AF (AT (exP (ev tm x) n) H) K (Az P N ⟨d, .extract x n, t, p, af, gd⟩ tm H K Qp) := rfl
end
@[go_sem] theorem fK {i : Nat} : tm0 [] i = .v undef := by simp [tm0]
@[go_sem] theorem bC {x : IV} {l : List IV} : tm0 (x :: l) 0 = x := rfl
@[go_sem] theorem bD {x : IV} {l : List IV} {i : Nat} : tm0 (x :: l) (i + 1) = tm0 l i := by simp [tm0]
section
@[go_sem] theorem aA {cs : List IV} : AK (.ag cs) = some cs := rfl
@[go_sem] theorem aB {sz : Nat} {es : List (List IV)} : AK (.sl sz es) = some [.sl sz es] := rfl
@[go_sem] theorem aC {cs : List IV} : AK (.cp cs) = some [.cp cs] := rfl
@[go_sem] theorem aD {f : Fn} {a b : List IV} : AK (.fn f a b) = some [.fn f a b] := rfl
@[go_sem] theorem XJ {t : TypeId} {x : IV} : AK (.ifc t x) = some [.ifc t x] := rfl
@[go_sem] theorem bE {k o : Nat} : AK (.p k o) = some [.p k o] := rfl
@[go_sem] theorem aE {k : Nat} : AK (.mp k) = some [.mp k] := rfl
@[go_sem] theorem aF {k n : Nat} : AK (.os k n) = some [.os k n] := rfl
@[go_sem] theorem aG {k n o : Nat} : AK (.pr k n o) = some [.pr k n o] := rfl
@[go_sem] theorem aH {k n o : Nat} : AK (.bs k o n) = some [.bs k o n] := rfl
@[go_sem] theorem XK {k : IntKind} {n : Int} : AK (.v (.int k n)) = some [.v (.int k n)] := rfl
@[go_sem] theorem WD {b : Bool} : AK (.v (.bool b)) = some [.v (.bool b)] := rfl
@[go_sem] theorem XL {s : ByteArray} : AK (.v (.string s)) = some [.v (.string s)] := rfl
@[go_sem] theorem UX {a : Option Addr} {n c : Nat} : AK (.v (.slice a n c)) = some [.v (.slice a n c)] := rfl
@[go_sem] theorem XM {a : Option Addr} : AK (.v (.pointer a)) = some [.v (.pointer a)] := rfl
@[go_sem] theorem XN {a : Option Nat} : AK (.v (.map a)) = some [.v (.map a)] := rfl
@[go_sem] theorem WE {f : Fn} {a b : Array Value} : AK (.v (.func f a b)) = some [.v (.func f a b)] := rfl
@[go_sem] theorem Se  : AK (.v .nilFunc) = some [.v .nilFunc] := rfl
@[go_sem] theorem UY {t : TypeId} {x : Value} : AK (.v (.iface t x)) = some [.v (.iface t x)] := rfl
@[go_sem] theorem RR  : AK (.v .nilIface) = some [.v .nilIface] := rfl
@[go_sem] theorem XO {xs : Array Value} : AK (.v (.agg xs)) = if xs.toList.all (·.oneCell') = true then some (xs.toList.map .v) else none := rfl
end
attribute [go_sem] tyB tyR
attribute [go_sem] Value.oneCell' bsI DG rep Value.cells chunks
attribute [go_sem] Of ldX ldN ldH ldP stX ixX ixP alX bxX fdP fvP ivP El Qr shI UF UG unP cvP ncP exP mkP slP Fh MP LB apI Oi elI Dy D2 fnP He
section
variable {P : Program} {op : BinOp} {t : TypeId}
@[go_sem] theorem iR {a b : Value} : Hf P op t (.v a) (.v b) = (match Qr P op t a b with | some (s, r) => some (s, .v r) | none => none) := rfl
@[go_sem] theorem iS {k off : Nat} : Hf P op t (.p k off) (.v (.pointer none)) = (match P.underlying t with
    | some (.pointer _) => match op with | .eql => some (True, .v (.bool false)) | .neq => some (True, .v (.bool true)) | _ => none
    | _ => none) := rfl
@[go_sem] theorem fM {cs : List IV} : Hf P op t (.cp cs) (.v (.pointer none)) = (match P.underlying t with
    | some (.pointer _) => match op with | .eql => some (True, .v (.bool false)) | .neq => some (True, .v (.bool true)) | _ => none
    | _ => none) := rfl
@[go_sem] theorem fN {k : Nat} : Hf P op t (.mp k) (.v (.map none)) = (match P.underlying t with
    | some (.map _ _) => match op with | .eql => some (True, .v (.bool false)) | .neq => some (True, .v (.bool true)) | _ => none
    | _ => none) := rfl
@[go_sem] theorem fO {f : Fn} {a b : List IV} : Hf P op t (.fn f a b) (.v .nilFunc) = (match P.underlying t with
    | some (.func _ _ _) => match op with | .eql => some (True, .v (.bool false)) | .neq => some (True, .v (.bool true)) | _ => none
    | _ => none) := rfl
@[go_sem] theorem fQ {sz : Nat} {es : List (List IV)} {y : IV} : Hf P op t (.sl sz es) y = none := by cases y <;> rfl
@[go_sem] theorem fR {a b c d : List UInt8} : Hf P op t (.ag [.v (str a), .v (str b)]) (.ag [.v (str c), .v (str d)]) = (match P.underlying t with
    | some (.struct fs) =>
      match fs.toList with
      | [f1, f2] => match op with
        | .eql => some (P.underlying f1.type = some .string ∧ P.underlying f2.type = some .string ∧ f1.offset = 0 ∧ ¬ f1.name = "_" ∧ f2.offset = 1 ∧ ¬ f2.name = "_" ∧ P.stoodInHeld t = false ∧ P.eqGuardType P.depth t = false, .v (.bool (decide (a = c ∧ b = d))))
        | .neq => some (P.underlying f1.type = some .string ∧ P.underlying f2.type = some .string ∧ f1.offset = 0 ∧ ¬ f1.name = "_" ∧ f2.offset = 1 ∧ ¬ f2.name = "_" ∧ P.stoodInHeld t = false ∧ P.eqGuardType P.depth t = false, .v (.bool (!decide (a = c ∧ b = d))))
        | _ => none
      | _ => none
    | _ => none) := by
  simp only [Hf, agE, str, C3]
  cases P.underlying t with
  | none => rfl
  | some d =>
    cases d <;> try rfl
    rename_i fs
    simp only
    rcases fs.toList with _ | ⟨f1, _ | ⟨f2, _ | ⟨f3, l⟩⟩⟩ <;> first | rfl | (cases op <;> rfl)
end
attribute [go_sem] Qo
@[go_sem] theorem aI : AP True = True := by simp [AP]
theorem BH {c : Bool} {a b : Tm → A2 → Prop} (h1 : c = true → a tm H) (h2 : c = false → b tm H) : KP (.v (.bool c)) a b tm H := ⟨h1, h2⟩
theorem EX {c : Bool} {K : Bool → Prop} (h1 : c = true → K true) (h2 : c = false → K false) : splitB (.v (.bool c)) K := ⟨h1, h2⟩
theorem Bh {c : Code} {Q : Exit → Tm → A2 → Prop} (I : Tm → A2 → Prop) (μ : Tm → A2 → Nat) (h0 : UpI I tm H)
    (h : ∀ I' μ', I' = I → μ' = μ → ∀ tm H, I tm H → IWp P N c (Cr (Up I' μ' (μ tm H)) Q) tm H) : Ot P N c Q tm H := ⟨I, μ, h0, h I μ rfl rfl⟩
theorem Up.of {I I' : Tm → A2 → Prop} {μ μ' : Tm → A2 → Nat} {m : Nat} (hI : I' = I) (hμ : μ' = μ) (h : I tm H) (hm : μ tm H < m) : Up I' μ' m tm H := by
 subst hI; subst hμ; exact .same h hm
def Ow (x : Option (Prop × List IV)) (H0 : A2) (Q : Aw → A2 → Prop) (H : A2) : Prop :=
  match x with
  | some (s, is) => s ∧ Jc (MY is) H0 Q H
  | none => False
section
variable {H0 : A2} {rs : List ResultVar} {Q : Aw → A2 → Prop}
theorem IB : LG P rs H0 Q tm H = Ow (Fi P H tm rs) H0 Q H := by
 unfold Ow LG; cases Fi P H tm rs with
 | none => simp
 | some x =>
  obtain ⟨s, is⟩ := x; exact propext ⟨fun ⟨s', is', h1, h2, h3⟩ => by cases h1; exact ⟨h2, h3⟩, fun ⟨h2, h3⟩ => ⟨s, is, rfl, h2, h3⟩⟩
@[go_sem] theorem bF : Om P rs H0 Q .ret tm H = Ow (Fi P H tm rs) H0 Q H := IB
@[go_sem] theorem WG : Om P rs H0 Q .normal tm H = Ow (Fi P H tm rs) H0 Q H := IB
@[go_sem] theorem aJ {s : Prop} {is : List IV} : Ow (some (s, is)) H0 Q H = (s ∧ Jc (MY is) H0 Q H) := rfl
theorem AJ {r : IV} (he : Ext H0 H) (hn : NB H0.next r) (h : Q (.ret r) H0) : Jc r H0 Q H :=
  .inl ⟨r, H0, he.Cx, .wk r r (fun _ _ _ h => h) hn, h⟩
theorem CP {r : IV} (h : Q (.ret r) H) : Jc r H0 Q H := .inr ⟨r, H, .inl (.refl r H), h⟩
theorem Bw {r r' : IV} {J : A2} (he : BA H0 H J) (hf : Fz H J r r') (h : Q (.ret r') J) : Jc r H0 Q H := .inl ⟨r', J, he, hf, h⟩
end
attribute [go_sem] Fi rvI MY
@[go_sem] theorem aK {α : Type} {a : α} {l : List α} : (a :: l)[0]? = some a := rfl
@[go_sem] theorem aL {α : Type} {a : α} {l : List α} {i : Nat} : (a :: l)[i + 1]? = l[i]? := rfl
def intOf : IV → Int
  | .v (.int _ n) => n
  | _ => 0
@[go_sem] theorem intOf_int {k : IntKind} {n : Int} : intOf (.v (.int k n)) = n := rfl
end Go.Idl
