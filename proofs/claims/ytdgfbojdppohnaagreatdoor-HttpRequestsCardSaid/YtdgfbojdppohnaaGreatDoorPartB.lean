/- The bytes of any request, or that there are none; they are that request again: the saying of the case law 12 Part 2. Conditions: none. -/
import Derived.Test.YtdgfbojdppohnaaGreatDoorPartA
set_option linter.unusedSimpArgs false
set_option linter.unusedVariables false
namespace Go.Idl
open Go Go.RowKit
variable {P : Program} {N : Nat} {tm : Tm} {H : A0}
def AK (x : Option (Prop × IV)) (H : A0) : Option (Prop × IV × A0) :=
  match x with
  | some (s, r) => some (s, r, H)
  | none => none
def Ap (x : Option (Prop × IV × A0)) (K : IV → A0 → Prop) (alt : Prop) : Prop :=
  match x with
  | some (s, r, H) => s ∧ K r H
  | none => alt
def CV (x : Option (FuncId × List IV)) (A : FuncId → List IV → Prop) (alt : Prop) : Prop :=
  match x with
  | some (f, cap) => A f cap
  | none => alt
def ldX (P : Program) (H : A0) (t : TypeId) (x : IV) : Option (Prop × IV) :=
  match x with
  | .p k off => ldN P H t (.p k off)
  | .pr k n off => ldN P H t (.pr k n off)
  | y => ldP P t y
def stX (P : Program) (H : A0) (t : TypeId) (x y : IV) : Option (Prop × IV × A0) :=
  match x with
  | .p k off =>
    match H.obj k, Az y with
    | some (.cells cs), some vc => some (AF (vc.length = P.cellsOf t) ∧ AF (0 < P.cellsOf t) ∧ AF (off + vc.length ≤ cs.length), .v undef, H.set k (.cells (DT cs vc off)))
    | some (.ty T (.cells cs)), some vc => some (AF (vc.length = P.cellsOf t) ∧ AF (0 < P.cellsOf t) ∧ AF (off + vc.length ≤ cs.length), .v undef, H.set k (.ty T (.cells (DT cs vc off))))
    | _, _ => none
  | .pr k n off =>
    match H.obj k, Az y with
    | some (.row sz es), some vc => some (AF (es.length = n) ∧ AF (vc.length = P.cellsOf t) ∧ AF (0 < P.cellsOf t) ∧ AF (off % sz + vc.length ≤ sz) ∧ AF (off < es.length * sz), .v undef, H.set k (.row sz (Dw sz es vc off)))
    | _, _ => none
  | _ => none
def ixX (P : Program) (H : A0) (t : TypeId) (x i : IV) : Option (Prop × IV) :=
  match x with
  | .os k n =>
    match P.underlying t, H.obj k, i with
    | some (.slice e), some (.row _ es), .v (.int _ m) => some (AF (es.length = n) ∧ AF (0 < P.cellsOf e) ∧ AF (0 ≤ m) ∧ AF (m < n), .pr k n (m.toNat * P.cellsOf e))
    | _, _, _ => none
  | y => ixP P (P.underlying t) y i
def alX (P : Program) (H : A0) (t : TypeId) : Option (Prop × IV × A0) :=
  match zeroOf P t with
  | some z => if z.cells.toList.all (·.oneCell') = true then some (True, .p H.next 0, H.new (tyB P t (.cells (z.cells.toList.map .v)))) else none
  | none => none
def bxX (H : A0) (x : IV) : Option (Prop × IV × A0) :=
  match Az x with
  | some cs => some (True, .p H.next 0, H.new (.cells cs))
  | none => none
def bzI (n : Nat) (x : Option (Nat × List IV)) : Option (Prop × IV) :=
  match x with
  | some (sz, rs) => some (True, .sl sz (chunks sz n rs))
  | none => none
def cmX (P : Program) (H : A0) (b : Builtin) (l ts : List IV) (ats : List TypeId) : Option (Prop × IV × A0) :=
  match b, l, ats with
  | .delete, [x, i], [t, _] => dlX P H t x i
  | .len, [x], [t] => match Ef (P.underlying t) x with | some (s, r) => some (s, r, H) | none => AK (lnX P H t x) H
  | _, _, _ => none
def efX (P : Program) (H : A0) (tm : Tm) (op : Op) : Option (Prop × IV × A0) :=
  match op with
  | .alloc t => alX P H t
  | .box _ x => bxX H (ev tm x)
  | .load t x => AK (ldX P H t (ev tm x)) H
  | .store t x y => stX P H t (ev tm x) (ev tm y)
  | .indexAddr t x i => AK (ixX P H t (ev tm x) (ev tm i)) H
  | .buildSlice t (n + 1) ps => AK (bzI (n + 1) (bsI P t (n + 1) (ps.toList.map fun q => (q.1, ev tm q.2)))) H
  | .lookup t x i ok => AK (lkX P H t (ev tm x) (ev tm i) ok) H
  | .mapUpdate t x i y => muX P H t (ev tm x) (ev tm i) (ev tm y)
  | .insert t x i y => muX P H t (ev tm x) (ev tm i) (ev tm y)
  | .makeMap _ none => some (True, .mp H.next, H.new (.map []))
  | .call ⟨.builtin b, l, ats⟩ => cmX P H b (l.toList.map (ev tm)) [] ats.toList
  | op => AK (evP P tm op) H
theorem GW {o : Oper} {K : IV → A0 → Prop} {Qp : List PanicEntry → A0 → Prop} {t : TypeId} {x : Operand} {s : Prop} {r : IV} (ho : o.op = .load t x) (hok : okO N o = true)
    (h : ldX P H t (ev tm x) = some (s, r)) (hs : s) (hk : K r H) : Ai P N o tm H K Qp := by
 have alt : ldP P t (ev tm x) = some (s, r) → Ai P N o tm H K Qp := fun h => Cx hok (by rw [ho]; exact h) hs hk; cases hx : ev tm x <;> rw [hx] at h alt
 case p k off => exact HH ho hok (by rw [hx]; exact h) hs hk
 case pr k n off => exact HH ho hok (by rw [hx]; exact h) hs hk
 all_goals exact alt h
theorem Gq {o : Oper} {K : IV → A0 → Prop} {Qp : List PanicEntry → A0 → Prop} {s : Prop} {r : IV} {H' : A0} (hok : okO N o = true) (h : efX P H tm o.op = some (s, r, H')) (hs : s) (hk : K r H') : Ai P N o tm H K Qp := by
 have pure' : AK (evP P tm o.op) H = some (s, r, H') → Ai P N o tm H K Qp := by
  intro h; unfold AK at h; split at h
  ·rename_i s' r' he; simp only [Option.some.injEq, Prod.mk.injEq] at h; obtain ⟨rfl, rfl, rfl⟩ := h; exact Cx hok he hs hk
  ·cases h
 cases ho : o.op <;> rw [ho] at h pure'
 case alloc t =>
  simp only [efX, alX] at h; split at h
  ·rename_i z hz; split at h
   ·rename_i hone; simp only [Option.some.injEq, Prod.mk.injEq] at h; obtain ⟨_, rfl, rfl⟩ := h; exact Kz ho hz hone hk
   ·cases h
  ·cases h
 case box t x =>
  simp only [efX, bxX] at h; split at h
  ·rename_i cs hc; simp only [Option.some.injEq, Prod.mk.injEq] at h; obtain ⟨_, rfl, rfl⟩ := h; exact Nh ho hok hc hk
  ·cases h
 case load t x =>
  simp only [efX, AK] at h; split at h
  ·rename_i s' r' hl; simp only [Option.some.injEq, Prod.mk.injEq] at h; obtain ⟨rfl, rfl, rfl⟩ := h; exact GW ho hok hl hs hk
  ·cases h
 case store t x y =>
  simp only [efX, stX] at h; split at h
  ·rename_i k off hx; split at h
   ·rename_i cs vc hk' hv; simp only [Option.some.injEq, Prod.mk.injEq] at h; obtain ⟨rfl, rfl, rfl⟩ := h; exact KB ho hok hx hk' hv hs.1 hs.2.1 hs.2.2 hk
   ·rename_i T cs vc hk' hv; simp only [Option.some.injEq, Prod.mk.injEq] at h; obtain ⟨rfl, rfl, rfl⟩ := h; exact JM ho hok hx hk' hv hs.1 hs.2.1 hs.2.2 hk
   ·cases h
  ·rename_i k n off hx; split at h
   ·rename_i sz es vc hk' hv; simp only [Option.some.injEq, Prod.mk.injEq] at h; obtain ⟨rfl, rfl, rfl⟩ := h; exact JN ho hok hx hk' hs.1 hv hs.2.1 hs.2.2.1 hs.2.2.2.1 hs.2.2.2.2 hk
   ·cases h
  ·cases h
 case indexAddr t x i =>
  simp only [efX, AK] at h; split at h
  ·rename_i s' r' hl; simp only [Option.some.injEq, Prod.mk.injEq] at h; obtain ⟨rfl, rfl, rfl⟩ := h; unfold ixX at hl; split at hl
   ·rename_i k n hx; split at hl
    ·rename_i e sz es kk m hu hk' hi; simp only [Option.some.injEq, Prod.mk.injEq] at hl; obtain ⟨rfl, rfl⟩ := hl; exact LH ho hok hu hx hi hk' hs.1 hs.2.1 hs.2.2.1 hs.2.2.2 hk
    ·cases hl
   ·exact Cx hok (by rw [ho]; exact hl) hs hk
  ·cases h
 case buildSlice t n ps =>
  cases n with
  | zero => exact pure' h
  | succ n =>
   simp only [efX, AK] at h; split at h
   ·rename_i s' r' hl; simp only [Option.some.injEq, Prod.mk.injEq] at h; obtain ⟨rfl, rfl, rfl⟩ := h; unfold bzI at hl; split at hl
    ·rename_i sz rs hb; simp only [Option.some.injEq, Prod.mk.injEq] at hl; obtain ⟨_, rfl⟩ := hl; exact DF ho hok hb hk
    ·cases hl
   ·cases h
 case lookup t x i k =>
  simp only [efX, AK] at h; split at h
  ·rename_i s' r' hl; simp only [Option.some.injEq, Prod.mk.injEq] at h; obtain ⟨rfl, rfl, rfl⟩ := h; exact FQ ho hok hl hs hk
  ·cases h
 case mapUpdate t x i y =>
  simp only [efX] at h; exact Hp ho hok h hs hk
 case insert t x i y =>
  simp only [efX] at h; exact JQ ho hok h hs hk
 case makeMap t m =>
  cases m with
  | none =>
   simp only [efX, Option.some.injEq, Prod.mk.injEq] at h; obtain ⟨rfl, rfl, rfl⟩ := h; exact IX ho hk
  | some m => exact pure' h
 case call c =>
  obtain ⟨ce, l, ats⟩ := c; cases ce with
  | builtin b =>
   simp only [efX, cmX] at h; split at h
   ·rename_i x i t t' h1 h2; obtain ⟨ox, oi, rfl, rfl, rfl⟩ : ∃ ox oi, l = #[ox, oi] ∧ ev tm ox = x ∧ ev tm oi = i := by
     obtain ⟨l⟩ := l
     match l, h1 with
     | [p, q], h1 => simp at h1; exact ⟨p, q, rfl, h1.1, h1.2⟩
    have e2 : ats = #[t, t'] := Array.toList_inj.1 h2; subst e2; exact JR ho hok h hs hk
   ·rename_i x t h1 h2; obtain ⟨ox, rfl, rfl⟩ : ∃ ox, l = #[ox] ∧ ev tm ox = x := by
     obtain ⟨l⟩ := l
     match l, h1 with
     | [p], h1 => simp at h1; exact ⟨p, rfl, h1⟩
    have e2 : ats = #[t] := Array.toList_inj.1 h2; subst e2; split at h
    ·rename_i s' r' hl; simp only [Option.some.injEq, Prod.mk.injEq] at h; obtain ⟨rfl, rfl, rfl⟩ := h; exact Cx hok (by rw [ho]; exact hl) hs hk
    ·unfold AK at h; split at h
     ·rename_i s' r' hl; simp only [Option.some.injEq, Prod.mk.injEq] at h; obtain ⟨rfl, rfl, rfl⟩ := h; exact JS ho hok hl hk
     ·cases h
   ·cases h
  | _ => exact pure' h
 all_goals exact pure' h
def splitB (x : IV) (K : Bool → Prop) : Prop :=
  match x with
  | .v (.bool c) => (c = true → K true) ∧ (c = false → K false)
  | _ => False
def CO (x : IV) (K : Bool → Prop) (sk : Tm → Prop) (tm : Tm) : Prop :=
  match x with
  | .v (.bool c) => (c = true → K true) ∧ (c = false → K false)
  | .v _ => sk tm
  | _ => False
def CW (c b : Bool) (x y : Prop) : Prop := if c = b then x else y
def BH (P : Program) (N : Nat) (o : Oper) (tm : Tm) (H : A0) (K : IV → A0 → Prop) (Qp : List PanicEntry → A0 → Prop) : Prop :=
  match o.op with
  | .call { callee := .value x, args, .. } => CV (fnP (ev tm x)) (fun f cap => A3 P f (args.toList.map (ev tm) ++ cap) H (Je K Qp)) (Ai P N o tm H K Qp)
  | .call { callee := .builtin .append, args, argTypes, .. } =>
    match args.toList, argTypes.toList with
    | [x, y], [t, t'] => Ap (apI P H t t' (ev tm x) (ev tm y)) K (Ai P N o tm H K Qp)
    | _, _ => Ai P N o tm H K Qp
  | .pick c a b => splitB (ev tm c) fun q => CW q true (K (ev tm a) H) (K (ev tm b) H)
  | op => Ap (efX P H tm op) K (Ai P N o tm H K Qp)
theorem Cz {o : Oper} {K : IV → A0 → Prop} {Qp : List PanicEntry → A0 → Prop} (hok : okO N o = true) (h : BH P N o tm H K Qp) : Ai P N o tm H K Qp := by
 unfold BH at h; split at h
 ·rename_i x args ats ho; unfold CV at h; split at h
  ·rename_i f cap hf; exact HN ho hok hf h
  ·exact h
 ·rename_i args ats ho; split at h
  ·rename_i x y t t' h1 h2; unfold Ap at h; split at h
   ·rename_i s r H' he; have e1 : args = #[x, y] := Array.toList_inj.1 h1; have e2 : ats = #[t, t'] := Array.toList_inj.1 h2; subst e1; subst e2; exact FM ho hok he h.1 h.2
   ·exact h
  ·exact h
 ·rename_i c a b ho; unfold splitB at h; split at h
  ·rename_i q hq; cases q with
   | true =>
    have h2 := h.1 rfl; refine Cx hok (i := ev tm a) (s := True) ?_ trivial (by simpa [CW] using h2); rw [ho]; simp [evP, hq]
   | false =>
    have h2 := h.2 rfl; refine Cx hok (i := ev tm b) (s := True) ?_ trivial (by simpa [CW] using h2); rw [ho]; simp [evP, hq]
  ·exact h.elim
 ·unfold Ap at h; split at h
  ·rename_i s r H' he; exact Gq hok he h.1 h.2
  ·exact h
def vcG (full : Array Oper) (o : Oper) (tm : Tm) (run skip : Tm → Prop) : Prop :=
  match o.guard with
  | none => run tm
  | some (j, b) =>
    match (full[j]?).bind (·.dst) with
    | some d => CO (tm d) (fun c => CW c b (run (upd tm d (.v (.bool c)))) (skip (upd tm d (.v (.bool c))))) skip tm
    | none => False
def Cn (P : Program) (N : Nat) (full : Array Oper) : List Oper → (Exit → Tm → A0 → Prop) → Tm → A0 → Prop
  | [], Q, tm, H => Q .normal tm H
  | o :: l, Q, tm, H => vcG full o tm
      (fun tm => BH P N o tm H (fun x H' => Cn P N full l Q (Bj tm o.dst x) H') (fun ch H' => Q (.panic ch) tm H'))
      (fun tm => Cn P N full l Q (Bj tm o.dst (.v undef)) H)
theorem FT {d : Nat} {x : IV} (h : tm d = x) : upd tm d x = tm := by
 funext i; unfold upd; split
 ·rename_i e; rw [e, h]
 ·rfl
theorem Dq {full : Array Oper} (hok : full.toList.all (okO N) = true) {Q : Exit → Tm → A0 → Prop} : ∀ (l : List Oper) (i : Nat) (tm : Tm) (H : A0), (∀ (j : Nat) (o : Oper), l[j]? = some o → full[i + j]? = some o) →
    Cn P N full l Q tm H → FF P N full (List.range' i l.length) Q tm H
  | [], i, tm, H, _, h => FH h
  | o :: l, i, tm, H, hl, h => by
    have ho : full[i]? = some o := hl 0 o rfl
    have hl' : ∀ (j : Nat) (o : Oper), l[j]? = some o → full[i + 1 + j]? = some o := fun j o' h => by
      have := hl (j + 1) o' (by simpa using h)
      rwa [show i + (j + 1) = i + 1 + j by omega] at this
    have hall := List.all_eq_true.1 hok
    have hoo : okO N o = true := hall o (by rw [Array.mem_toList_iff]; exact Array.mem_of_getElem? ho)
    have run : (∀ (w : World) (g : Gs) (a : Act), RA w g a tm → a.tmps.size = N → Region.wanted o (yielded full a.tmps) = true) →
        BH P N o tm H (fun x H' => Cn P N full l Q (Bj tm o.dst x) H') (fun ch H' => Q (.panic ch) tm H') → FF P N full (i :: List.range' (i + 1) l.length) Q tm H := fun hg h =>
      D3 ho hg ((Cz hoo h).mono (fun x H' h => Dq hok l (i + 1) _ _ hl' h) fun _ _ h => h)
    have skip : (∀ (w : World) (g : Gs) (a : Act), RA w g a tm → a.tmps.size = N → Region.wanted o (yielded full a.tmps) = false) →
        Cn P N full l Q (Bj tm o.dst (.v undef)) H → FF P N full (i :: List.range' (i + 1) l.length) Q tm H := fun hg h =>
      N3 ho hg (Dq hok l (i + 1) _ _ hl' h)
    show FF P N full (i :: List.range' (i + 1) l.length) Q tm H
    unfold Cn vcG at h
    split at h
    · rename_i hgd
      exact run (fun w g a r hN => by simp [Region.wanted, hgd]) h
    · rename_i j b hgd
      split at h
      · rename_i d hd
        have hdN : d < N := by
          rw [Option.bind_eq_some_iff] at hd
          obtain ⟨o', h1, h2⟩ := hd
          have := hall o' (by rw [Array.mem_toList_iff]; exact Array.mem_of_getElem? h1)
          simp only [okO, h2, Bool.and_eq_true, decide_eq_true_eq] at this
          exact this.2
        unfold CO at h
        split at h
        · rename_i c hc
          have hy : ∀ (w : World) (g : Gs) (a : Act), RA w g a tm → a.tmps.size = N → yielded full a.tmps j = some c := by
            intro w g a r hN
            have h1 := r d (by rw [hN]; exact hdN)
            rw [hc] at h1
            have h2 := h1.v_eq
            have h3 : a.tmps[d]? = some (.bool c) := by
              have hlt : d < a.tmps.size := by rw [hN]; exact hdN
              rw [Array.getElem?_eq_getElem hlt]
              simpa [hlt] using h2
            simp [yielded, hd, h3]
          have hw : ∀ (w : World) (g : Gs) (a : Act), RA w g a tm → a.tmps.size = N → Region.wanted o (yielded full a.tmps) = (c == b) := by
            intro w g a r hN
            simp [Region.wanted, hgd, hy w g a r hN]
          have key : CW c b (BH P N o tm H (fun x H' => Cn P N full l Q (Bj tm o.dst x) H') (fun ch H' => Q (.panic ch) tm H')) (Cn P N full l Q (Bj tm o.dst (.v undef)) H) := by
            cases c with
            | true =>
              have := h.1 rfl
              dsimp only at this
              rwa [FT hc] at this
            | false =>
              have := h.2 rfl
              dsimp only at this
              rwa [FT hc] at this
          unfold CW at key
          split at key
          · rename_i e
            exact run (fun w g a r hN => by rw [hw w g a r hN]; simp [e]) key
          · rename_i e
            exact skip (fun w g a r hN => by rw [hw w g a r hN]; simp [e]) key
        · rename_i y hne hc
          refine skip (fun w g a r hN => ?_) h
          have h1 := r d (by rw [hN]; exact hdN)
          rw [hc] at h1
          have h2 := h1.v_eq
          have hlt : d < a.tmps.size := by rw [hN]; exact hdN
          have h3 : a.tmps[d]? = some y := by
            rw [Array.getElem?_eq_getElem hlt]
            simpa [hlt] using h2
          have h4 : yielded full a.tmps j = none := by
            simp only [yielded, hd, Option.bind_some, h3]
            split
            · rename_i c e
              cases e
              exact (hne c rfl).elim
            · rfl
          simp [Region.wanted, hgd, h4]
        · exact h.elim
      · exact h.elim
def KG (x : IV) (a b : Prop) : Prop :=
  match x with
  | .v (.bool c) => (c = true → a) ∧ (c = false → b)
  | _ => False
def LM (P : Program) (N : Nat) (c : Code) (Q : Exit → Tm → A0 → Prop) (tm : Tm) (H : A0) : Prop :=
  ∃ (I : Tm → A0 → Prop) (μ : Tm → A0 → Nat), UpI I tm H ∧ ∀ tm H, I tm H → IWp P N c (Dj (Up I μ (μ tm H)) Q) tm H
def vc (P : Program) (N : Nat) : Code → (Exit → Tm → A0 → Prop) → Tm → A0 → Prop
  | .skip, Q, tm, H => Q .normal tm H
  | .label _, Q, tm, H => Q .normal tm H
  | .exit id, Q, tm, H => Q (.exit id) tm H
  | .goto l, Q, tm, H => Q (.goto l) tm H
  | .ret, Q, tm, H => Q .ret tm H
  | .seq a b, Q, tm, H => vc P N a (Dj (vc P N b Q) Q) tm H
  | .region id ops draw, Q, tm, H => match draw with | true => IWp P N (.region id ops true) Q tm H | false => Cn P N ops ops.toList Q tm H
  | .cond c x y, Q, tm, H => KG (ev tm c) (vc P N x Q tm H) (vc P N y Q tm H)
  | .block id c, Q, tm, H => vc P N c (D1 id Q) tm H
  | .loop c, Q, tm, H => LM P N c Q tm H
  | c, Q, tm, H => IWp P N c Q tm H
def Hq (N : Nat) : Code → Bool
  | .seq a b => Hq N a && Hq N b
  | .region _ ops draw => match draw with | true => true | false => ops.toList.all (okO N)
  | .cond c x y => opd N c && Hq N x && Hq N y
  | .block _ c => Hq N c
  | .loop c => Hq N c
  | _ => true
theorem AH : ∀ (c : Code), Hq N c = true → ∀ (Q : Exit → Tm → A0 → Prop) (tm : Tm) (H : A0), vc P N c Q tm H → IWp P N c Q tm H
  | .skip, _, Q, tm, H, h => NY h
  | .label _, _, Q, tm, H, h => N2 h
  | .exit _, _, Q, tm, H, h => NZ h
  | .goto _, _, Q, tm, H, h => N_ h
  | .ret, _, Q, tm, H, h => PS h
  | .seq a b, hf, Q, tm, H, h => by
    simp only [Hq, Bool.and_eq_true] at hf
    refine ME ((AH a hf.1 _ tm H h).mono fun e tm' H' q => ?_)
    cases e with
    | normal => exact AH b hf.2 Q tm' H' q
    | _ => exact q
  | .region id ops true, _, Q, tm, H, h => h
  | .region id ops false, hf, Q, tm, H, h => by
    refine DS ?_
    have := Dq (full := ops) hf ops.toList 0 tm H (fun j o ho => by simpa using ho) h
    rwa [List.range_eq_range', ← Array.length_toList]
  | .cond c x y, hf, Q, tm, H, h => by
    simp only [Hq, Bool.and_eq_true] at hf
    unfold vc KG at h
    split at h
    · rename_i b hb
      exact FE hb hf.1.1 (fun e => AH x hf.1.2 Q tm H (h.1 e)) (fun e => AH y hf.2 Q tm H (h.2 e))
    · exact h.elim
  | .block id c, hf, Q, tm, H, h => Af (AH c hf _ tm H h)
  | .loop c, hf, Q, tm, H, ⟨I, μ, h0, h1⟩ => Nj I μ h0 h1
  | .rangeFunc .., _, Q, tm, H, h => h
  | .scope _, _, Q, tm, H, h => h
  | .refuse _, _, Q, tm, H, h => h
theorem JT {f : FuncId} {fn : Func} {c : Code} {args : List IV} {Q : Am → A0 → Prop} (hf : P.funcs[f]? = some fn) (hbd : Bi P f = true) (hb : fn.body = some c) (hN : fn.ntmps = N)
    (hn : (args.length ≤ N ∧ fn.results.toList.all (rvN N) = true ∧ Hq N c = true))
    (h : H.Wf → vc P N c (LI P fn.results.toList H Q) (tm0 args) H) : A3 P f args H Q := by
 subst hN; exact F4 hbd hf hb hn.1 hn.2.1 fun hw => AH c hn.2.2 _ _ _ (h hw)
end Go.Idl
namespace Go.Idl
open Go Go.RowKit
variable {P : Program} {N : Nat} {tm : Tm} {H : A0}
def Jf (x : IV) (a b : Tm → A0 → Prop) (tm : Tm) (H : A0) : Prop := KG x (a tm H) (b tm H)
def MI (P : Program) (N : Nat) (full : Array Oper) (l : List Oper) (Q : Exit → Tm → A0 → Prop) (d : Option Tmp) (tm : Tm) : IV → A0 → Prop := fun x H' => Cn P N full l Q (Bj tm d x) H'
def JU (Q : Exit → Tm → A0 → Prop) (tm : Tm) : List PanicEntry → A0 → Prop := fun ch H' => Q (.panic ch) tm H'
def RN (P : Program) (N : Nat) (full : Array Oper) (o : Oper) (l : List Oper) (Q : Exit → Tm → A0 → Prop) (H : A0) : Tm → Prop := fun tm => BH P N o tm H (MI P N full l Q o.dst tm) (JU Q tm)
def Oa (P : Program) (N : Nat) (full : Array Oper) (d : Option Tmp) (l : List Oper) (Q : Exit → Tm → A0 → Prop) (H : A0) : Tm → Prop := fun tm => Cn P N full l Q (Bj tm d (.v undef)) H
def DA (b : Bool) (d : Tmp) (tm : Tm) (run skip : Tm → Prop) : Bool → Prop := fun c => CW c b (run (upd tm d (.v (.bool c)))) (skip (upd tm d (.v (.bool c))))
def KH (K : IV → A0 → Prop) (x y : IV) (H : A0) : Bool → Prop := fun q => CW q true (K x H) (K y H)
def KI (P : Program) (args : List IV) (H : A0) (K : IV → A0 → Prop) (Qp : List PanicEntry → A0 → Prop) : FuncId → List IV → Prop := fun f cap => A3 P f (args ++ cap) H (Je K Qp)
section
variable {Q : Exit → Tm → A0 → Prop}
@[go_sem] theorem We : vc P N .skip Q tm H = Q .normal tm H := rfl
@[go_sem] theorem V5 {l : Nat} : vc P N (.label l) Q tm H = Q .normal tm H := rfl
@[go_sem] theorem Wg {l : Nat} : vc P N (.exit l) Q tm H = Q (.exit l) tm H := rfl
@[go_sem] theorem Wh {l : Nat} : vc P N (.goto l) Q tm H = Q (.goto l) tm H := rfl
@[go_sem] theorem Xg : vc P N .ret Q tm H = Q .ret tm H := rfl
@[go_sem] theorem Xh {a b : Code} : vc P N (.seq a b) Q tm H = vc P N a (Dj (vc P N b Q) Q) tm H := rfl
@[go_sem] theorem Ua {id : Nat} {l : List Oper} : vc P N (.region id ⟨l⟩ false) Q tm H = Cn P N ⟨l⟩ l Q tm H := rfl
@[go_sem] theorem Wi {id : Nat} {l : Array Oper} : vc P N (.region id l true) Q tm H = IWp P N (.region id l true) Q tm H := rfl
@[go_sem] theorem Wj {c : Operand} {x y : Code} : vc P N (.cond c x y) Q tm H = Jf (ev tm c) (vc P N x Q) (vc P N y Q) tm H := rfl
@[go_sem] theorem V6 {id : Nat} {c : Code} : vc P N (.block id c) Q tm H = vc P N c (D1 id Q) tm H := rfl
@[go_sem] theorem Wl {c : Code} : vc P N (.loop c) Q tm H = LM P N c Q tm H := rfl
@[go_sem] theorem P_ {f : Operand} {ps : Array Tmp} {a b : Code} : vc P N (.rangeFunc f ps a b) Q tm H = IWp P N (.rangeFunc f ps a b) Q tm H := rfl
@[go_sem] theorem V7 {c : Code} : vc P N (.scope c) Q tm H = IWp P N (.scope c) Q tm H := rfl
variable {K : Tm → A0 → Prop}
@[go_sem] theorem Q0 : Dj K Q .normal tm H = K tm H := rfl
@[go_sem] theorem RP {l : Nat} : Dj K Q (.exit l) tm H = Q (.exit l) tm H := rfl
@[go_sem] theorem RQ {l : Nat} : Dj K Q (.goto l) tm H = Q (.goto l) tm H := rfl
@[go_sem] theorem Ub : Dj K Q .ret tm H = Q .ret tm H := rfl
@[go_sem] theorem R6 {c : List PanicEntry} : Dj K Q (.panic c) tm H = Q (.panic c) tm H := rfl
@[go_sem] theorem PL {id : Nat} : D1 id Q .normal tm H = Q .normal tm H := rfl
@[go_sem] theorem R7 {id : Nat} : D1 id Q (.exit id) tm H = Q .normal tm H := by simp [D1]
@[go_sem] theorem R8 {id l : Nat} : D1 id Q (.goto l) tm H = Q (.goto l) tm H := rfl
@[go_sem] theorem RR {id : Nat} : D1 id Q .ret tm H = Q .ret tm H := rfl
@[go_sem] theorem Q1 {id : Nat} {c : List PanicEntry} : D1 id Q (.panic c) tm H = Q (.panic c) tm H := rfl
@[go_sem] theorem Uc {full : Array Oper} : Cn P N full [] Q tm H = Q .normal tm H := rfl
@[go_sem] theorem RS {full : Array Oper} {d : Option Tmp} {op : Op} {t : TypeId} {p : String} {af : Array Edge} {l : List Oper} :
    Cn P N full (⟨d, op, t, p, af, none⟩ :: l) Q tm H = BH P N ⟨d, op, t, p, af, none⟩ tm H (MI P N full l Q d tm) (JU Q tm) := rfl
@[go_sem] theorem Ud {full : Array Oper} {l : List Oper} {d : Option Tmp} {x : IV} : MI P N full l Q d tm x H = Cn P N full l Q (Bj tm d x) H := rfl
@[go_sem] theorem V8 {c : List PanicEntry} : JU Q tm c H = Q (.panic c) tm H := rfl
def KJ (l : List Oper) (j : Nat) : Option Tmp := (l[j]?).bind (·.dst)
def vcH (d : Option Tmp) (b : Bool) (tm : Tm) (run skip : Tm → Prop) : Prop :=
  match d with
  | some d => CO (tm d) (DA b d tm run skip) skip tm
  | none => False
@[go_sem] theorem R9 {full : List Oper} {d : Option Tmp} {op : Op} {t : TypeId} {p : String} {af : Array Edge} {j : Nat} {b : Bool} {l : List Oper} :
    Cn P N ⟨full⟩ (⟨d, op, t, p, af, some (j, b)⟩ :: l) Q tm H = vcH (KJ full j) b tm (RN P N ⟨full⟩ ⟨d, op, t, p, af, some (j, b)⟩ l Q H) (Oa P N ⟨full⟩ d l Q H) := by
 show vcG ⟨full⟩ ⟨d, op, t, p, af, some (j, b)⟩ tm (RN P N ⟨full⟩ ⟨d, op, t, p, af, some (j, b)⟩ l Q H) (Oa P N ⟨full⟩ d l Q H) = vcH ((full[j]?).bind (·.dst)) b tm _ _; unfold vcG vcH; simp only [List.getElem?_toArray]; cases (full[j]?).bind (·.dst) <;> rfl
@[go_sem] theorem V9 {full : Array Oper} {o : Oper} {l : List Oper} : RN P N full o l Q H tm = BH P N o tm H (MI P N full l Q o.dst tm) (JU Q tm) := rfl
@[go_sem] theorem Ue {full : Array Oper} {d : Option Tmp} {l : List Oper} : Oa P N full d l Q H tm = Cn P N full l Q (Bj tm d (.v undef)) H := rfl
end
@[go_sem] theorem RT {o : Oper} {l : List Oper} : KJ (o :: l) 0 = o.dst := rfl
@[go_sem] theorem RU {o : Oper} {l : List Oper} {j : Nat} : KJ (o :: l) (j + 1) = KJ l j := rfl
@[go_sem] theorem Va {d : Tmp} {b : Bool} {run skip : Tm → Prop} : vcH (some d) b tm run skip = CO (tm d) (DA b d tm run skip) skip tm := rfl
@[go_sem] theorem Uf {d : Tmp} {run skip : Tm → Prop} : DA true d tm run skip true = run (upd tm d (.v (.bool true))) := by simp [DA, CW]
@[go_sem] theorem Ug {d : Tmp} {run skip : Tm → Prop} : DA true d tm run skip false = skip (upd tm d (.v (.bool false))) := by simp [DA, CW]
@[go_sem] theorem Uh {d : Tmp} {run skip : Tm → Prop} : DA false d tm run skip true = skip (upd tm d (.v (.bool true))) := by simp [DA, CW]
@[go_sem] theorem Ui {d : Tmp} {run skip : Tm → Prop} : DA false d tm run skip false = run (upd tm d (.v (.bool false))) := by simp [DA, CW]
@[go_sem] theorem RV {K : IV → A0 → Prop} {x y : IV} : KH K x y H true = K x H := by simp [KH, CW]
@[go_sem] theorem Ra {K : IV → A0 → Prop} {x y : IV} : KH K x y H false = K y H := by simp [KH, CW]
@[go_sem] theorem Uj {args cap : List IV} {K : IV → A0 → Prop} {Qp : List PanicEntry → A0 → Prop} {f : FuncId} : KI P args H K Qp f cap = A3 P f (args ++ cap) H (Je K Qp) := rfl
@[go_sem] theorem Rb {K : Bool → Prop} {sk : Tm → Prop} : CO (.v (.bool true)) K sk tm = K true := by simp [CO]
@[go_sem] theorem Q2 {K : Bool → Prop} {sk : Tm → Prop} : CO (.v (.bool false)) K sk tm = K false := by simp [CO]
@[go_sem] theorem Q3 {K : Bool → Prop} {sk : Tm → Prop} : CO (.v undef) K sk tm = sk tm := rfl
theorem FU {c : Bool} {K : Bool → Prop} {sk : Tm → Prop} (h1 : c = true → K true) (h2 : c = false → K false) : CO (.v (.bool c)) K sk tm := ⟨h1, h2⟩
@[go_sem] theorem Rc {K : Bool → Prop} : splitB (.v (.bool true)) K = K true := by simp [splitB]
@[go_sem] theorem Q4 {K : Bool → Prop} : splitB (.v (.bool false)) K = K false := by simp [splitB]
@[go_sem] theorem RW {a b : Tm → A0 → Prop} : Jf (.v (.bool true)) a b tm H = a tm H := by simp [Jf, KG]
@[go_sem] theorem Re {a b : Tm → A0 → Prop} : Jf (.v (.bool false)) a b tm H = b tm H := by simp [Jf, KG]
@[go_sem] theorem RX {s : Prop} {r : IV} {K : IV → A0 → Prop} {alt : Prop} : Ap (some (s, r, H)) K alt = (s ∧ K r H) := rfl
@[go_sem] theorem RY {K : IV → A0 → Prop} {alt : Prop} : Ap none K alt = alt := rfl
@[go_sem] theorem RZ {f : FuncId} {cap : List IV} {A : FuncId → List IV → Prop} {alt : Prop} : CV (some (f, cap)) A alt = A f cap := rfl
@[go_sem] theorem R_ {A : FuncId → List IV → Prop} {alt : Prop} : CV none A alt = alt := rfl
@[go_sem] theorem S4 {s : Prop} {r : IV} : AK (some (s, r)) H = some (s, r, H) := rfl
@[go_sem] theorem S5 : AK none H = none := rfl
@[go_sem] theorem Uk {K : IV → A0 → Prop} {Qp : List PanicEntry → A0 → Prop} {r : IV} : Je K Qp (.ret r) H = K r H := rfl
@[go_sem] theorem Ul {K : IV → A0 → Prop} {Qp : List PanicEntry → A0 → Prop} {c : List PanicEntry} : Je K Qp (.pan c) H = Qp c H := rfl
@[go_sem] theorem Um {d : Nat} {x : IV} : Bj tm (some d) x = upd tm d x := rfl
@[go_sem] theorem Un {x : IV} : Bj tm none x = tm := rfl
@[go_sem] theorem Wm {d i : Nat} {x : IV} : upd tm d x i = if i = d then x else tm i := rfl
@[go_sem] theorem Xi {t : Tmp} : ev tm (.tmp t) = tm t := rfl
@[go_sem] theorem Vb {x : Value} : ev tm (.const x) = .v x := rfl
@[go_sem] theorem Wn {f : FuncId} : ev tm (.func f) = .v (.func (.func f) #[] #[]) := rfl
@[go_sem] theorem Uo {g : Nat} : ev tm (.global g) = .v (.pointer (some ⟨g, 0, none⟩)) := rfl
section
variable {d : Option Tmp} {t : TypeId} {p : String} {af : Array Edge} {gd : Option (Nat × Bool)} {K : IV → A0 → Prop} {Qp : List PanicEntry → A0 → Prop}
@[go_sem] theorem Uq {x : Operand} {l : List Operand} {ats : Array TypeId} : BH P N ⟨d, .call ⟨.value x, ⟨l⟩, ats⟩, t, p, af, gd⟩ tm H K Qp =
    CV (fnP (ev tm x)) (KI P (l.map (ev tm)) H K Qp) (Ai P N ⟨d, .call ⟨.value x, ⟨l⟩, ats⟩, t, p, af, gd⟩ tm H K Qp) := rfl
@[go_sem] theorem Rf {x y : Operand} {a b : TypeId} : BH P N ⟨d, .call ⟨.builtin .append, #[x, y], #[a, b]⟩, t, p, af, gd⟩ tm H K Qp =
    Ap (apI P H a b (ev tm x) (ev tm y)) K (Ai P N ⟨d, .call ⟨.builtin .append, #[x, y], #[a, b]⟩, t, p, af, gd⟩ tm H K Qp) := rfl
def Q5 (a b : Option (Prop × IV)) : Option (Prop × IV) := match a with | some r => some r | none => b
@[go_sem] theorem Ur {p : Prop × IV} {b : Option (Prop × IV)} : Q5 (some p) b = some p := rfl
@[go_sem] theorem Us {b : Option (Prop × IV)} : Q5 none b = b := rfl
@[go_sem] theorem Vc {x : Operand} {a : TypeId} : BH P N ⟨d, .call ⟨.builtin .len, #[x], #[a]⟩, t, p, af, gd⟩ tm H K Qp =
    Ap (AK (Q5 (Ef (P.underlying a) (ev tm x)) (lnX P H a (ev tm x))) H) K (Ai P N ⟨d, .call ⟨.builtin .len, #[x], #[a]⟩, t, p, af, gd⟩ tm H K Qp) := by
 show Ap (cmX P H .len [ev tm x] [] [a]) K _ = _; congr 1; unfold cmX Q5; simp only; cases Ef (P.underlying a) (ev tm x) <;> rfl
@[go_sem] theorem Rg {x y : Operand} {a b : TypeId} : BH P N ⟨d, .call ⟨.builtin .delete, #[x, y], #[a, b]⟩, t, p, af, gd⟩ tm H K Qp =
    Ap (dlX P H a (ev tm x) (ev tm y)) K (Ai P N ⟨d, .call ⟨.builtin .delete, #[x, y], #[a, b]⟩, t, p, af, gd⟩ tm H K Qp) := rfl
@[go_sem] theorem Rh {x y : Operand} {a : TypeId} {ok : Bool} : BH P N ⟨d, .lookup a x y ok, t, p, af, gd⟩ tm H K Qp =
    Ap (AK (lkX P H a (ev tm x) (ev tm y) ok) H) K (Ai P N ⟨d, .lookup a x y ok, t, p, af, gd⟩ tm H K Qp) := rfl
@[go_sem] theorem Ob {x y z : Operand} {a : TypeId} : BH P N ⟨d, .mapUpdate a x y z, t, p, af, gd⟩ tm H K Qp =
    Ap (muX P H a (ev tm x) (ev tm y) (ev tm z)) K (Ai P N ⟨d, .mapUpdate a x y z, t, p, af, gd⟩ tm H K Qp) := rfl
@[go_sem] theorem Ri {x y z : Operand} {a : TypeId} : BH P N ⟨d, .insert a x y z, t, p, af, gd⟩ tm H K Qp =
    Ap (muX P H a (ev tm x) (ev tm y) (ev tm z)) K (Ai P N ⟨d, .insert a x y z, t, p, af, gd⟩ tm H K Qp) := rfl
@[go_sem] theorem Q6 {a : TypeId} : BH P N ⟨d, .makeMap a none, t, p, af, gd⟩ tm H K Qp =
    Ap (some (True, .mp H.next, H.new (.map []))) K (Ai P N ⟨d, .makeMap a none, t, p, af, gd⟩ tm H K Qp) := rfl
@[go_sem] theorem Ut {x : Operand} : BH P N ⟨d, .move x, t, p, af, gd⟩ tm H K Qp = K (ev tm x) H := true_and _
@[go_sem] theorem Rj {x : Operand} : BH P N ⟨d, .assign x, t, p, af, gd⟩ tm H K Qp = K (ev tm x) H := true_and _
@[go_sem] theorem S6 {a : TypeId} : BH P N ⟨d, .alloc a, t, p, af, gd⟩ tm H K Qp = Ap (alX P H a) K (Ai P N ⟨d, .alloc a, t, p, af, gd⟩ tm H K Qp) := rfl
@[go_sem] theorem Vd {a : TypeId} {x : Operand} : BH P N ⟨d, .box a x, t, p, af, gd⟩ tm H K Qp = Ap (bxX H (ev tm x)) K (Ai P N ⟨d, .box a x, t, p, af, gd⟩ tm H K Qp) := rfl
@[go_sem] theorem Uu {a : TypeId} {x : Operand} : BH P N ⟨d, .load a x, t, p, af, gd⟩ tm H K Qp = Ap (AK (ldX P H a (ev tm x)) H) K (Ai P N ⟨d, .load a x, t, p, af, gd⟩ tm H K Qp) := rfl
@[go_sem] theorem S7 {a : TypeId} {x y : Operand} : BH P N ⟨d, .store a x y, t, p, af, gd⟩ tm H K Qp = Ap (stX P H a (ev tm x) (ev tm y)) K (Ai P N ⟨d, .store a x y, t, p, af, gd⟩ tm H K Qp) := rfl
@[go_sem] theorem Oc {a : TypeId} {x y : Operand} : BH P N ⟨d, .indexAddr a x y, t, p, af, gd⟩ tm H K Qp = Ap (AK (ixX P H a (ev tm x) (ev tm y)) H) K (Ai P N ⟨d, .indexAddr a x y, t, p, af, gd⟩ tm H K Qp) := rfl
@[go_sem] theorem Uv {c a b : Operand} : BH P N ⟨d, .pick c a b, t, p, af, gd⟩ tm H K Qp = splitB (ev tm c) (KH K (ev tm a) (ev tm b) H) := rfl
@[go_sem] theorem S8 {a : TypeId} {l : List (Nat × Operand)} : BH P N ⟨d, .build a ⟨l⟩, t, p, af, gd⟩ tm H K Qp = Ap (AK (bdP P a (l.map fun q => (q.1, ev tm q.2))) H) K (Ai P N ⟨d, .build a ⟨l⟩, t, p, af, gd⟩ tm H K Qp) := rfl
@[go_sem] theorem Ve {n sz : Nat} {rs : List IV} : bzI n (some (sz, rs)) = some (True, .sl sz (chunks sz n rs)) := rfl
@[go_sem] theorem NR {a : TypeId} {n : Nat} {l : List (Nat × Operand)} : BH P N ⟨d, .buildSlice a (n + 1) ⟨l⟩, t, p, af, gd⟩ tm H K Qp = Ap (AK (bzI (n + 1) (bsI P a (n + 1) (l.map fun q => (q.1, ev tm q.2)))) H) K (Ai P N ⟨d, .buildSlice a (n + 1) ⟨l⟩, t, p, af, gd⟩ tm H K Qp) := rfl
@[go_sem] theorem NS {a : TypeId} {l : List (Nat × Operand)} : BH P N ⟨d, .buildSlice a 0 ⟨l⟩, t, p, af, gd⟩ tm H K Qp = Ai P N ⟨d, .buildSlice a 0 ⟨l⟩, t, p, af, gd⟩ tm H K Qp := rfl
@[go_sem] theorem PM {x : Operand} : BH P N ⟨d, .nilCheck x, t, p, af, gd⟩ tm H K Qp = Ap (AK (ncP (ev tm x)) H) K (Ai P N ⟨d, .nilCheck x, t, p, af, gd⟩ tm H K Qp) := rfl
@[go_sem] theorem S9 {op : BinOp} {a b : TypeId} {x y : Operand} : BH P N ⟨d, .binOp op a x y b, t, p, af, gd⟩ tm H K Qp = Ap (AK (LD P op a tm x y) H) K (Ai P N ⟨d, .binOp op a x y b, t, p, af, gd⟩ tm H K Qp) := rfl
@[go_sem] theorem Uw {op : UnOp} {a : TypeId} {x : Operand} : BH P N ⟨d, .unOp op a x, t, p, af, gd⟩ tm H K Qp = Ap (AK (unP op (ev tm x)) H) K (Ai P N ⟨d, .unOp op a x, t, p, af, gd⟩ tm H K Qp) := rfl
@[go_sem] theorem Q7 {a b : TypeId} {x : Operand} : BH P N ⟨d, .convert a b x, t, p, af, gd⟩ tm H K Qp = Ap (AK (cvP P a b (ev tm x)) H) K (Ai P N ⟨d, .convert a b x, t, p, af, gd⟩ tm H K Qp) := rfl
@[go_sem] theorem LN {a : TypeId} {x : Operand} : BH P N ⟨d, .makeInterface a x, t, p, af, gd⟩ tm H K Qp = Ap (AK (mkP P a (ev tm x)) H) K (Ai P N ⟨d, .makeInterface a x, t, p, af, gd⟩ tm H K Qp) := rfl
@[go_sem] theorem PN {f : Fn} {x y : List Operand} : BH P N ⟨d, .makeFunc f ⟨x⟩ ⟨y⟩, t, p, af, gd⟩ tm H K Qp = K (.fn f (x.map (ev tm)) (y.map (ev tm))) H := true_and _
@[go_sem] theorem Sa {a : TypeId} {x : Operand} {lo hi mx : Option Operand} : BH P N ⟨d, .slice a x lo hi mx, t, p, af, gd⟩ tm H K Qp =
    Ap (AK (slP P (P.underlying a) (ev tm x) (lo.map (ev tm)) (hi.map (ev tm)) (mx.map (ev tm))) H) K (Ai P N ⟨d, .slice a x lo hi mx, t, p, af, gd⟩ tm H K Qp) := rfl
@[go_sem] theorem Od {a : TypeId} {x : Operand} {f : Nat} : BH P N ⟨d, .fieldAddr a x f, t, p, af, gd⟩ tm H K Qp = Ap (AK (fdP P (P.underlying a) (ev tm x) f) H) K (Ai P N ⟨d, .fieldAddr a x f, t, p, af, gd⟩ tm H K Qp) := rfl
@[go_sem] theorem Sb {a : TypeId} {x : Operand} {f : Nat} : BH P N ⟨d, .field a x f, t, p, af, gd⟩ tm H K Qp = Ap (AK (fvP P (P.underlying a) (ev tm x) f) H) K (Ai P N ⟨d, .field a x f, t, p, af, gd⟩ tm H K Qp) := rfl
@[go_sem] theorem Sc {a : TypeId} {x y : Operand} : BH P N ⟨d, .index a x y, t, p, af, gd⟩ tm H K Qp = Ap (AK (ivP P (P.underlying a) (ev tm x) (ev tm y)) H) K (Ai P N ⟨d, .index a x y, t, p, af, gd⟩ tm H K Qp) := rfl
@[go_sem] theorem Q8 {x : Operand} {n : Nat} : BH P N ⟨d, .extract x n, t, p, af, gd⟩ tm H K Qp = Ap (AK (exP (ev tm x) n) H) K (Ai P N ⟨d, .extract x n, t, p, af, gd⟩ tm H K Qp) := rfl
end
@[go_sem] theorem Wo {i : Nat} : tm0 [] i = .v undef := by simp [tm0]
@[go_sem] theorem Vf {x : IV} {l : List IV} : tm0 (x :: l) 0 = x := rfl
@[go_sem] theorem Vg {x : IV} {l : List IV} {i : Nat} : tm0 (x :: l) (i + 1) = tm0 l i := by simp [tm0]
section
@[go_sem] theorem Ux {cs : List IV} : Az (.ag cs) = some cs := rfl
@[go_sem] theorem Uy {sz : Nat} {es : List (List IV)} : Az (.sl sz es) = some [.sl sz es] := rfl
@[go_sem] theorem Uz {cs : List IV} : Az (.cp cs) = some [.cp cs] := rfl
@[go_sem] theorem UA {f : Fn} {a b : List IV} : Az (.fn f a b) = some [.fn f a b] := rfl
@[go_sem] theorem Sd {t : TypeId} {x : IV} : Az (.ifc t x) = some [.ifc t x] := rfl
@[go_sem] theorem Vh {k o : Nat} : Az (.p k o) = some [.p k o] := rfl
@[go_sem] theorem UB {k : Nat} : Az (.mp k) = some [.mp k] := rfl
@[go_sem] theorem UC {k n : Nat} : Az (.os k n) = some [.os k n] := rfl
@[go_sem] theorem UD {k n o : Nat} : Az (.pr k n o) = some [.pr k n o] := rfl
@[go_sem] theorem UE {k n o : Nat} : Az (.bs k o n) = some [.bs k o n] := rfl
@[go_sem] theorem Se {k : IntKind} {n : Int} : Az (.v (.int k n)) = some [.v (.int k n)] := rfl
@[go_sem] theorem Rk {b : Bool} : Az (.v (.bool b)) = some [.v (.bool b)] := rfl
@[go_sem] theorem Sf {s : ByteArray} : Az (.v (.string s)) = some [.v (.string s)] := rfl
@[go_sem] theorem Q9 {a : Option Addr} {n c : Nat} : Az (.v (.slice a n c)) = some [.v (.slice a n c)] := rfl
@[go_sem] theorem Sg {a : Option Addr} : Az (.v (.pointer a)) = some [.v (.pointer a)] := rfl
@[go_sem] theorem Si {a : Option Nat} : Az (.v (.map a)) = some [.v (.map a)] := rfl
@[go_sem] theorem Rl {f : Fn} {a b : Array Value} : Az (.v (.func f a b)) = some [.v (.func f a b)] := rfl
@[go_sem] theorem Oe  : Az (.v .nilFunc) = some [.v .nilFunc] := rfl
@[go_sem] theorem Qa {t : TypeId} {x : Value} : Az (.v (.iface t x)) = some [.v (.iface t x)] := rfl
@[go_sem] theorem NT  : Az (.v .nilIface) = some [.v .nilIface] := rfl
@[go_sem] theorem Sj {xs : Array Value} : Az (.v (.agg xs)) = if xs.toList.all (·.oneCell') = true then some (xs.toList.map .v) else none := rfl
end
attribute [go_sem] tyB tyR
attribute [go_sem] Value.oneCell' bsI E9 rep Value.cells chunks
attribute [go_sem] LD ldX ldN ldH ldP stX ixX ixP alX bxX fdP fvP ivP Ef O0 shI PT PU unP cvP ncP exP mkP slP EV Ku JL apI LG elI Dx DT fnP FI
section
variable {P : Program} {op : BinOp} {t : TypeId}
@[go_sem] theorem Xj {a b : Value} : HD P op t (.v a) (.v b) = (match O0 P op t a b with | some (s, r) => some (s, .v r) | none => none) := rfl
@[go_sem] theorem Xk {k off : Nat} : HD P op t (.p k off) (.v (.pointer none)) = (match P.underlying t with
    | some (.pointer _) => match op with | .eql => some (True, .v (.bool false)) | .neq => some (True, .v (.bool true)) | _ => none
    | _ => none) := rfl
@[go_sem] theorem Wp {cs : List IV} : HD P op t (.cp cs) (.v (.pointer none)) = (match P.underlying t with
    | some (.pointer _) => match op with | .eql => some (True, .v (.bool false)) | .neq => some (True, .v (.bool true)) | _ => none
    | _ => none) := rfl
@[go_sem] theorem Wq {k : Nat} : HD P op t (.mp k) (.v (.map none)) = (match P.underlying t with
    | some (.map _ _) => match op with | .eql => some (True, .v (.bool false)) | .neq => some (True, .v (.bool true)) | _ => none
    | _ => none) := rfl
@[go_sem] theorem Wr {f : Fn} {a b : List IV} : HD P op t (.fn f a b) (.v .nilFunc) = (match P.underlying t with
    | some (.func _ _ _) => match op with | .eql => some (True, .v (.bool false)) | .neq => some (True, .v (.bool true)) | _ => none
    | _ => none) := rfl
@[go_sem] theorem Ws {sz : Nat} {es : List (List IV)} {y : IV} : HD P op t (.sl sz es) y = none := by cases y <;> rfl
@[go_sem] theorem Wt {a b c d : List UInt8} : HD P op t (.ag [.v (str a), .v (str b)]) (.ag [.v (str c), .v (str d)]) = (match P.underlying t with
    | some (.struct fs) =>
      match fs.toList with
      | [f1, f2] => match op with
        | .eql => some (P.underlying f1.type = some .string ∧ P.underlying f2.type = some .string ∧ f1.offset = 0 ∧ ¬ f1.name = "_" ∧ f2.offset = 1 ∧ ¬ f2.name = "_" ∧ P.stoodInHeld t = false ∧ P.eqGuardType P.depth t = false, .v (.bool (decide (a = c ∧ b = d))))
        | .neq => some (P.underlying f1.type = some .string ∧ P.underlying f2.type = some .string ∧ f1.offset = 0 ∧ ¬ f1.name = "_" ∧ f2.offset = 1 ∧ ¬ f2.name = "_" ∧ P.stoodInHeld t = false ∧ P.eqGuardType P.depth t = false, .v (.bool (!decide (a = c ∧ b = d))))
        | _ => none
      | _ => none
    | _ => none) := by
  simp only [HD, agE, str, C9]
  cases P.underlying t with
  | none => rfl
  | some d =>
    cases d <;> try rfl
    rename_i fs
    simp only
    rcases fs.toList with _ | ⟨f1, _ | ⟨f2, _ | ⟨f3, l⟩⟩⟩ <;> first | rfl | (cases op <;> rfl)
end
attribute [go_sem] N4
@[go_sem] theorem UF : AF True = True := by simp [AF]
theorem CX {c : Bool} {a b : Tm → A0 → Prop} (h1 : c = true → a tm H) (h2 : c = false → b tm H) : Jf (.v (.bool c)) a b tm H := ⟨h1, h2⟩
theorem Hv {c : Bool} {K : Bool → Prop} (h1 : c = true → K true) (h2 : c = false → K false) : splitB (.v (.bool c)) K := ⟨h1, h2⟩
theorem Gr {c : Code} {Q : Exit → Tm → A0 → Prop} (I : Tm → A0 → Prop) (μ : Tm → A0 → Nat) (h0 : UpI I tm H)
    (h : ∀ I' μ', I' = I → μ' = μ → ∀ tm H, I tm H → IWp P N c (Dj (Up I' μ' (μ tm H)) Q) tm H) : LM P N c Q tm H := ⟨I, μ, h0, h I μ rfl rfl⟩
theorem Up.of {I I' : Tm → A0 → Prop} {μ μ' : Tm → A0 → Nat} {m : Nat} (hI : I' = I) (hμ : μ' = μ) (h : I tm H) (hm : μ tm H < m) : Up I' μ' m tm H := by
 subst hI; subst hμ; exact .same h hm
def LO (x : Option (Prop × List IV)) (H0 : A0) (Q : Am → A0 → Prop) (H : A0) : Prop :=
  match x with
  | some (s, is) => s ∧ KE (KD is) H0 Q H
  | none => False
section
variable {H0 : A0} {rs : List ResultVar} {Q : Am → A0 → Prop}
theorem Hw : JP P rs H0 Q tm H = LO (Gn P H tm rs) H0 Q H := by
 unfold LO JP; cases Gn P H tm rs with
 | none => simp
 | some x =>
  obtain ⟨s, is⟩ := x; exact propext ⟨fun ⟨s', is', h1, h2, h3⟩ => by cases h1; exact ⟨h2, h3⟩, fun ⟨h2, h3⟩ => ⟨s, is, rfl, h2, h3⟩⟩
@[go_sem] theorem Vi : LI P rs H0 Q .ret tm H = LO (Gn P H tm rs) H0 Q H := Hw
@[go_sem] theorem Rm : LI P rs H0 Q .normal tm H = LO (Gn P H tm rs) H0 Q H := Hw
@[go_sem] theorem UG {s : Prop} {is : List IV} : LO (some (s, is)) H0 Q H = (s ∧ KE (KD is) H0 Q H) := rfl
theorem AM {r : IV} (he : Ext H0 H) (hn : NB H0.next r) (h : Q (.ret r) H0) : KE r H0 Q H :=
  .inl ⟨r, H0, he.Dz, .wk r r (fun _ _ _ h => h) hn, h⟩
theorem EJ {r r' : IV} {J : A0} (he : Cm H0 H J) (hf : Fz H J r r') (h : Q (.ret r') J) : KE r H0 Q H := .inl ⟨r', J, he, hf, h⟩
end
attribute [go_sem] Gn rvI KD
@[go_sem] theorem UH {α : Type} {a : α} {l : List α} : (a :: l)[0]? = some a := rfl
@[go_sem] theorem UI {α : Type} {a : α} {l : List α} {i : Nat} : (a :: l)[i + 1]? = l[i]? := rfl
def intOf : IV → Int
  | .v (.int _ n) => n
  | _ => 0
@[go_sem] theorem intOf_int {k : IntKind} {n : Int} : intOf (.v (.int k n)) = n := rfl
end Go.Idl
