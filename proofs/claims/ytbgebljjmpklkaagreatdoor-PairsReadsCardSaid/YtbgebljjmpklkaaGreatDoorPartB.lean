/- Reads what was parsed: the saying of the case law 20 Part 2. Conditions: none. -/
import Derived.Test.YtbgebljjmpklkaaGreatDoorPartA
set_option linter.unusedSimpArgs false
set_option linter.unusedVariables false
namespace Go.Idl
open Go Go.RowKit
variable {P : Program} {N : Nat} {tm : Tm} {H : A2}
def AU (x : Option (Prop × IV)) (H : A2) : Option (Prop × IV × A2) :=
  match x with
  | some (s, r) => some (s, r, H)
  | none => none
def AH (x : Option (Prop × IV × A2)) (K : IV → A2 → Prop) (alt : Prop) : Prop :=
  match x with
  | some (s, r, H) => s ∧ K r H
  | none => alt
def CY (x : Option (FuncId × List IV)) (A : FuncId → List IV → Prop) (alt : Prop) : Prop :=
  match x with
  | some (f, cap) => A f cap
  | none => alt
def ldX (P : Program) (H : A2) (t : TypeId) (x : IV) : Option (Prop × IV) :=
  match x with
  | .p k off => ldN P H t (.p k off)
  | .pr k n off => ldN P H t (.pr k n off)
  | y => ldP P t y
def stX (P : Program) (H : A2) (t : TypeId) (x y : IV) : Option (Prop × IV × A2) :=
  match x with
  | .p k off =>
    match H.obj k, AN y with
    | some (.cells cs), some vc => some (AQ (vc.length = P.cellsOf t) ∧ AQ (0 < P.cellsOf t) ∧ AQ (off + vc.length ≤ cs.length), .v undef, H.set k (.cells (E6 cs vc off)))
    | some (.ty T (.cells cs)), some vc => some (AQ (vc.length = P.cellsOf t) ∧ AQ (0 < P.cellsOf t) ∧ AQ (off + vc.length ≤ cs.length), .v undef, H.set k (.ty T (.cells (E6 cs vc off))))
    | _, _ => none
  | .pr k n off =>
    match H.obj k, AN y with
    | some (.row sz es), some vc => some (AQ (es.length = n) ∧ AQ (vc.length = P.cellsOf t) ∧ AQ (0 < P.cellsOf t) ∧ AQ (off % sz + vc.length ≤ sz) ∧ AQ (off < es.length * sz), .v undef, H.set k (.row sz (DD sz es vc off)))
    | _, _ => none
  | _ => none
def ixX (P : Program) (H : A2) (t : TypeId) (x i : IV) : Option (Prop × IV) :=
  match x with
  | .os k n =>
    match P.underlying t, H.obj k, i with
    | some (.slice e), some (.row _ es), .v (.int _ m) => some (AQ (es.length = n) ∧ AQ (0 < P.cellsOf e) ∧ AQ (0 ≤ m) ∧ AQ (m < n), .pr k n (m.toNat * P.cellsOf e))
    | _, _, _ => none
  | y => ixP P (P.underlying t) y i
def alX (P : Program) (H : A2) (t : TypeId) : Option (Prop × IV × A2) :=
  match zeroOf P t with
  | some z => if z.cells.toList.all (·.oneCell') = true then some (True, .p H.next 0, H.new (tyB P t (.cells (z.cells.toList.map .v)))) else none
  | none => none
def bxX (H : A2) (x : IV) : Option (Prop × IV × A2) :=
  match AN x with
  | some cs => some (True, .p H.next 0, H.new (.cells cs))
  | none => none
def bzI (n : Nat) (x : Option (Nat × List IV)) : Option (Prop × IV) :=
  match x with
  | some (sz, rs) => some (True, .sl sz (chunks sz n rs))
  | none => none
def cmX (P : Program) (H : A2) (b : Builtin) (l ts : List IV) (ats : List TypeId) : Option (Prop × IV × A2) :=
  match b, l, ats with
  | .delete, [x, i], [t, _] => dlX P H t x i
  | .len, [x], [t] => match EM (P.underlying t) x with | some (s, r) => some (s, r, H) | none => AU (lnX P H t x) H
  | _, _, _ => none
def efX (P : Program) (H : A2) (tm : Tm) (op : Op) : Option (Prop × IV × A2) :=
  match op with
  | .alloc t => alX P H t
  | .box _ x => bxX H (ev tm x)
  | .load t x => AU (ldX P H t (ev tm x)) H
  | .store t x y => stX P H t (ev tm x) (ev tm y)
  | .indexAddr t x i => AU (ixX P H t (ev tm x) (ev tm i)) H
  | .buildSlice t (n + 1) ps => AU (bzI (n + 1) (bsI P t (n + 1) (ps.toList.map fun q => (q.1, ev tm q.2)))) H
  | .lookup t x i ok => AU (lkX P H t (ev tm x) (ev tm i) ok) H
  | .mapUpdate t x i y => muX P H t (ev tm x) (ev tm i) (ev tm y)
  | .insert t x i y => muX P H t (ev tm x) (ev tm i) (ev tm y)
  | .makeMap _ none => some (True, .mp H.next, H.new (.map []))
  | .call ⟨.builtin b, l, ats⟩ => cmX P H b (l.toList.map (ev tm)) [] ats.toList
  | op => AU (evP P tm op) H
theorem IB {o : Oper} {K : IV → A2 → Prop} {Qp : List PanicEntry → A2 → Prop} {t : TypeId} {x : Operand} {s : Prop} {r : IV} (ho : o.op = .load t x) (hok : okO N o = true)
    (h : ldX P H t (ev tm x) = some (s, r)) (hs : s) (hk : K r H) : AE P N o tm H K Qp := by
 have alt : ldP P t (ev tm x) = some (s, r) → AE P N o tm H K Qp := fun h => Ct hok (by rw [ho]; exact h) hs hk; cases hx : ev tm x <;> rw [hx] at h alt
 case p k off => exact Jr ho hok (by rw [hx]; exact h) hs hk
 case pr k n off => exact Jr ho hok (by rw [hx]; exact h) hs hk
 all_goals exact alt h
theorem HI {o : Oper} {K : IV → A2 → Prop} {Qp : List PanicEntry → A2 → Prop} {s : Prop} {r : IV} {H' : A2} (hok : okO N o = true) (h : efX P H tm o.op = some (s, r, H')) (hs : s) (hk : K r H') : AE P N o tm H K Qp := by
 have pure' : AU (evP P tm o.op) H = some (s, r, H') → AE P N o tm H K Qp := by
  intro h; unfold AU at h; split at h
  ·rename_i s' r' he; simp only [Option.some.injEq, Prod.mk.injEq] at h; obtain ⟨rfl, rfl, rfl⟩ := h; exact Ct hok he hs hk
  ·cases h
 cases ho : o.op <;> rw [ho] at h pure'
 case alloc t =>
  simp only [efX, alX] at h; split at h
  ·rename_i z hz; split at h
   ·rename_i hone; simp only [Option.some.injEq, Prod.mk.injEq] at h; obtain ⟨_, rfl, rfl⟩ := h; exact N5 ho hz hone hk
   ·cases h
  ·cases h
 case box t x =>
  simp only [efX, bxX] at h; split at h
  ·rename_i cs hc; simp only [Option.some.injEq, Prod.mk.injEq] at h; obtain ⟨_, rfl, rfl⟩ := h; exact QI ho hok hc hk
  ·cases h
 case load t x =>
  simp only [efX, AU] at h; split at h
  ·rename_i s' r' hl; simp only [Option.some.injEq, Prod.mk.injEq] at h; obtain ⟨rfl, rfl, rfl⟩ := h; exact IB ho hok hl hs hk
  ·cases h
 case store t x y =>
  simp only [efX, stX] at h; split at h
  ·rename_i k off hx; split at h
   ·rename_i cs vc hk' hv; simp only [Option.some.injEq, Prod.mk.injEq] at h; obtain ⟨rfl, rfl, rfl⟩ := h; exact N7 ho hok hx hk' hv hs.1 hs.2.1 hs.2.2 hk
   ·rename_i T cs vc hk' hv; simp only [Option.some.injEq, Prod.mk.injEq] at h; obtain ⟨rfl, rfl, rfl⟩ := h; exact LZ ho hok hx hk' hv hs.1 hs.2.1 hs.2.2 hk
   ·cases h
  ·rename_i k n off hx; split at h
   ·rename_i sz es vc hk' hv; simp only [Option.some.injEq, Prod.mk.injEq] at h; obtain ⟨rfl, rfl, rfl⟩ := h; exact L_ ho hok hx hk' hs.1 hv hs.2.1 hs.2.2.1 hs.2.2.2.1 hs.2.2.2.2 hk
   ·cases h
  ·cases h
 case indexAddr t x i =>
  simp only [efX, AU] at h; split at h
  ·rename_i s' r' hl; simp only [Option.some.injEq, Prod.mk.injEq] at h; obtain ⟨rfl, rfl, rfl⟩ := h; unfold ixX at hl; split at hl
   ·rename_i k n hx; split at hl
    ·rename_i e sz es kk m hu hk' hi; simp only [Option.some.injEq, Prod.mk.injEq] at hl; obtain ⟨rfl, rfl⟩ := hl; exact Ox ho hok hu hx hi hk' hs.1 hs.2.1 hs.2.2.1 hs.2.2.2 hk
    ·cases hl
   ·exact Ct hok (by rw [ho]; exact hl) hs hk
  ·cases h
 case buildSlice t n ps =>
  cases n with
  | zero => exact pure' h
  | succ n =>
   simp only [efX, AU] at h; split at h
   ·rename_i s' r' hl; simp only [Option.some.injEq, Prod.mk.injEq] at h; obtain ⟨rfl, rfl, rfl⟩ := h; unfold bzI at hl; split at hl
    ·rename_i sz rs hb; simp only [Option.some.injEq, Prod.mk.injEq] at hl; obtain ⟨_, rfl⟩ := hl; exact DU ho hok hb hk
    ·cases hl
   ·cases h
 case lookup t x i k =>
  simp only [efX, AU] at h; split at h
  ·rename_i s' r' hl; simp only [Option.some.injEq, Prod.mk.injEq] at h; obtain ⟨rfl, rfl, rfl⟩ := h; exact GG ho hok hl hs hk
  ·cases h
 case mapUpdate t x i y =>
  simp only [efX] at h; exact IT ho hok h hs hk
 case insert t x i y =>
  simp only [efX] at h; exact M1 ho hok h hs hk
 case makeMap t m =>
  cases m with
  | none =>
   simp only [efX, Option.some.injEq, Prod.mk.injEq] at h; obtain ⟨rfl, rfl, rfl⟩ := h; exact KQ ho hk
  | some m => exact pure' h
 case call c =>
  obtain ⟨ce, l, ats⟩ := c; cases ce with
  | builtin b =>
   simp only [efX, cmX] at h; split at h
   ·rename_i x i t t' h1 h2; obtain ⟨ox, oi, rfl, rfl, rfl⟩ : ∃ ox oi, l = #[ox, oi] ∧ ev tm ox = x ∧ ev tm oi = i := by
     obtain ⟨l⟩ := l
     match l, h1 with
     | [p, q], h1 => simp at h1; exact ⟨p, q, rfl, h1.1, h1.2⟩
    have e2 : ats = #[t, t'] := Array.toList_inj.1 h2; subst e2; exact M3 ho hok h hs hk
   ·rename_i x t h1 h2; obtain ⟨ox, rfl, rfl⟩ : ∃ ox, l = #[ox] ∧ ev tm ox = x := by
     obtain ⟨l⟩ := l
     match l, h1 with
     | [p], h1 => simp at h1; exact ⟨p, rfl, h1⟩
    have e2 : ats = #[t] := Array.toList_inj.1 h2; subst e2; split at h
    ·rename_i s' r' hl; simp only [Option.some.injEq, Prod.mk.injEq] at h; obtain ⟨rfl, rfl, rfl⟩ := h; exact Ct hok (by rw [ho]; exact hl) hs hk
    ·unfold AU at h; split at h
     ·rename_i s' r' hl; simp only [Option.some.injEq, Prod.mk.injEq] at h; obtain ⟨rfl, rfl, rfl⟩ := h; exact M4 ho hok hl hk
     ·cases h
   ·cases h
  | _ => exact pure' h
 all_goals exact pure' h
def splitB (x : IV) (K : Bool → Prop) : Prop :=
  match x with
  | .v (.bool c) => (c = true → K true) ∧ (c = false → K false)
  | _ => False
def CR (x : IV) (K : Bool → Prop) (sk : Tm → Prop) (tm : Tm) : Prop :=
  match x with
  | .v (.bool c) => (c = true → K true) ∧ (c = false → K false)
  | .v _ => sk tm
  | _ => False
def CZ (c b : Bool) (x y : Prop) : Prop := if c = b then x else y
def BC (P : Program) (N : Nat) (o : Oper) (tm : Tm) (H : A2) (K : IV → A2 → Prop) (Qp : List PanicEntry → A2 → Prop) : Prop :=
  match o.op with
  | .call { callee := .value x, args, .. } => CY (fnP (ev tm x)) (fun f cap => Aa P f (args.toList.map (ev tm) ++ cap) H (Jx K Qp)) (AE P N o tm H K Qp)
  | .call { callee := .builtin .append, args, argTypes, .. } =>
    match args.toList, argTypes.toList with
    | [x, y], [t, t'] => AH (apI P H t t' (ev tm x) (ev tm y)) K (AE P N o tm H K Qp)
    | _, _ => AE P N o tm H K Qp
  | .pick c a b => splitB (ev tm c) fun q => CZ q true (K (ev tm a) H) (K (ev tm b) H)
  | op => AH (efX P H tm op) K (AE P N o tm H K Qp)
theorem Ed {o : Oper} {K : IV → A2 → Prop} {Qp : List PanicEntry → A2 → Prop} (hok : okO N o = true) (h : BC P N o tm H K Qp) : AE P N o tm H K Qp := by
 unfold BC at h; split at h
 ·rename_i x args ats ho; unfold CY at h; split at h
  ·rename_i f cap hf; exact Jy ho hok hf h
  ·exact h
 ·rename_i args ats ho; split at h
  ·rename_i x y t t' h1 h2; unfold AH at h; split at h
   ·rename_i s r H' he; have e1 : args = #[x, y] := Array.toList_inj.1 h1; have e2 : ats = #[t, t'] := Array.toList_inj.1 h2; subst e1; subst e2; exact GF ho hok he h.1 h.2
   ·exact h
  ·exact h
 ·rename_i c a b ho; unfold splitB at h; split at h
  ·rename_i q hq; cases q with
   | true =>
    have h2 := h.1 rfl; refine Ct hok (i := ev tm a) (s := True) ?_ trivial (by simpa [CZ] using h2); rw [ho]; simp [evP, hq]
   | false =>
    have h2 := h.2 rfl; refine Ct hok (i := ev tm b) (s := True) ?_ trivial (by simpa [CZ] using h2); rw [ho]; simp [evP, hq]
  ·exact h.elim
 ·unfold AH at h; split at h
  ·rename_i s r H' he; exact HI hok he h.1 h.2
  ·exact h
def vcG (full : Array Oper) (o : Oper) (tm : Tm) (run skip : Tm → Prop) : Prop :=
  match o.guard with
  | none => run tm
  | some (j, b) =>
    match (full[j]?).bind (·.dst) with
    | some d => CR (tm d) (fun c => CZ c b (run (upd tm d (.v (.bool c)))) (skip (upd tm d (.v (.bool c))))) skip tm
    | none => False
def CJ (P : Program) (N : Nat) (full : Array Oper) : List Oper → (Exit → Tm → A2 → Prop) → Tm → A2 → Prop
  | [], Q, tm, H => Q .normal tm H
  | o :: l, Q, tm, H => vcG full o tm
      (fun tm => BC P N o tm H (fun x H' => CJ P N full l Q (Bq tm o.dst x) H') (fun ch H' => Q (.panic ch) tm H'))
      (fun tm => CJ P N full l Q (Bq tm o.dst (.v undef)) H)
theorem GH {d : Nat} {x : IV} (h : tm d = x) : upd tm d x = tm := by
 funext i; unfold upd; split
 ·rename_i e; rw [e, h]
 ·rfl
theorem EU {full : Array Oper} (hok : full.toList.all (okO N) = true) {Q : Exit → Tm → A2 → Prop} : ∀ (l : List Oper) (i : Nat) (tm : Tm) (H : A2), (∀ (j : Nat) (o : Oper), l[j]? = some o → full[i + j]? = some o) →
    CJ P N full l Q tm H → Jk P N full (List.range' i l.length) Q tm H
  | [], i, tm, H, _, h => M_ h
  | o :: l, i, tm, H, hl, h => by
    have ho : full[i]? = some o := hl 0 o rfl
    have hl' : ∀ (j : Nat) (o : Oper), l[j]? = some o → full[i + 1 + j]? = some o := fun j o' h => by
      have := hl (j + 1) o' (by simpa using h)
      rwa [show i + (j + 1) = i + 1 + j by omega] at this
    have hall := List.all_eq_true.1 hok
    have hoo : okO N o = true := hall o (by rw [Array.mem_toList_iff]; exact Array.mem_of_getElem? ho)
    have run : (∀ (w : World) (g : Gs) (a : Act), RA w g a tm → a.tmps.size = N → Region.wanted o (yielded full a.tmps) = true) →
        BC P N o tm H (fun x H' => CJ P N full l Q (Bq tm o.dst x) H') (fun ch H' => Q (.panic ch) tm H') → Jk P N full (i :: List.range' (i + 1) l.length) Q tm H := fun hg h =>
      Jl ho hg ((Ed hoo h).mono (fun x H' h => EU hok l (i + 1) _ _ hl' h) fun _ _ h => h)
    have skip : (∀ (w : World) (g : Gs) (a : Act), RA w g a tm → a.tmps.size = N → Region.wanted o (yielded full a.tmps) = false) →
        CJ P N full l Q (Bq tm o.dst (.v undef)) H → Jk P N full (i :: List.range' (i + 1) l.length) Q tm H := fun hg h =>
      Qt ho hg (EU hok l (i + 1) _ _ hl' h)
    show Jk P N full (i :: List.range' (i + 1) l.length) Q tm H
    unfold CJ vcG at h
    split at h
    · rename_i hgd
      exact run (fun w g a r hN => by simp [Region.wanted, hgd]) h
    · rename_i j b hgd
      split at h
      · rename_i d hd
        have hdN : d < N := by
          rw [Option.bind_eq_some_iff] at hd
          obtain ⟨o', h1, h2⟩ := hd
          have := hall o' (by rw [Array.mem_toList_iff]; exact Array.mem_of_getElem? h1)
          simp only [okO, h2, Bool.and_eq_true, decide_eq_true_eq] at this
          exact this.2
        unfold CR at h
        split at h
        · rename_i c hc
          have hy : ∀ (w : World) (g : Gs) (a : Act), RA w g a tm → a.tmps.size = N → yielded full a.tmps j = some c := by
            intro w g a r hN
            have h1 := r d (by rw [hN]; exact hdN)
            rw [hc] at h1
            have h2 := h1.v_eq
            have h3 : a.tmps[d]? = some (.bool c) := by
              have hlt : d < a.tmps.size := by rw [hN]; exact hdN
              rw [Array.getElem?_eq_getElem hlt]
              simpa [hlt] using h2
            simp [yielded, hd, h3]
          have hw : ∀ (w : World) (g : Gs) (a : Act), RA w g a tm → a.tmps.size = N → Region.wanted o (yielded full a.tmps) = (c == b) := by
            intro w g a r hN
            simp [Region.wanted, hgd, hy w g a r hN]
          have key : CZ c b (BC P N o tm H (fun x H' => CJ P N full l Q (Bq tm o.dst x) H') (fun ch H' => Q (.panic ch) tm H')) (CJ P N full l Q (Bq tm o.dst (.v undef)) H) := by
            cases c with
            | true =>
              have := h.1 rfl
              dsimp only at this
              rwa [GH hc] at this
            | false =>
              have := h.2 rfl
              dsimp only at this
              rwa [GH hc] at this
          unfold CZ at key
          split at key
          · rename_i e
            exact run (fun w g a r hN => by rw [hw w g a r hN]; simp [e]) key
          · rename_i e
            exact skip (fun w g a r hN => by rw [hw w g a r hN]; simp [e]) key
        · rename_i y hne hc
          refine skip (fun w g a r hN => ?_) h
          have h1 := r d (by rw [hN]; exact hdN)
          rw [hc] at h1
          have h2 := h1.v_eq
          have hlt : d < a.tmps.size := by rw [hN]; exact hdN
          have h3 : a.tmps[d]? = some y := by
            rw [Array.getElem?_eq_getElem hlt]
            simpa [hlt] using h2
          have h4 : yielded full a.tmps j = none := by
            simp only [yielded, hd, Option.bind_some, h3]
            split
            · rename_i c e
              cases e
              exact (hne c rfl).elim
            · rfl
          simp [Region.wanted, hgd, h4]
        · exact h.elim
      · exact h.elim
def Nb (x : IV) (a b : Prop) : Prop :=
  match x with
  | .v (.bool c) => (c = true → a) ∧ (c = false → b)
  | _ => False
def OD (P : Program) (N : Nat) (c : Code) (Q : Exit → Tm → A2 → Prop) (tm : Tm) (H : A2) : Prop :=
  ∃ (I : Tm → A2 → Prop) (μ : Tm → A2 → Nat), UpI I tm H ∧ ∀ tm H, I tm H → IWp P N c (Co (Up I μ (μ tm H)) Q) tm H
def vc (P : Program) (N : Nat) : Code → (Exit → Tm → A2 → Prop) → Tm → A2 → Prop
  | .skip, Q, tm, H => Q .normal tm H
  | .label _, Q, tm, H => Q .normal tm H
  | .exit id, Q, tm, H => Q (.exit id) tm H
  | .goto l, Q, tm, H => Q (.goto l) tm H
  | .ret, Q, tm, H => Q .ret tm H
  | .seq a b, Q, tm, H => vc P N a (Co (vc P N b Q) Q) tm H
  | .region id ops draw, Q, tm, H => match draw with | true => IWp P N (.region id ops true) Q tm H | false => CJ P N ops ops.toList Q tm H
  | .cond c x y, Q, tm, H => Nb (ev tm c) (vc P N x Q tm H) (vc P N y Q tm H)
  | .block id c, Q, tm, H => vc P N c (D5 id Q) tm H
  | .loop c, Q, tm, H => OD P N c Q tm H
  | c, Q, tm, H => IWp P N c Q tm H
def IU (N : Nat) : Code → Bool
  | .seq a b => IU N a && IU N b
  | .region _ ops draw => match draw with | true => true | false => ops.toList.all (okO N)
  | .cond c x y => opd N c && IU N x && IU N y
  | .block _ c => IU N c
  | .loop c => IU N c
  | _ => true
theorem AA : ∀ (c : Code), IU N c = true → ∀ (Q : Exit → Tm → A2 → Prop) (tm : Tm) (H : A2), vc P N c Q tm H → IWp P N c Q tm H
  | .skip, _, Q, tm, H, h => RY h
  | .label _, _, Q, tm, H, h => Qs h
  | .exit _, _, Q, tm, H, h => RZ h
  | .goto _, _, Q, tm, H, h => R_ h
  | .ret, _, Q, tm, H, h => UZ h
  | .seq a b, hf, Q, tm, H, h => by
    simp only [IU, Bool.and_eq_true] at hf
    refine LS ((AA a hf.1 _ tm H h).mono fun e tm' H' q => ?_)
    cases e with
    | normal => exact AA b hf.2 Q tm' H' q
    | _ => exact q
  | .region id ops true, _, Q, tm, H, h => h
  | .region id ops false, hf, Q, tm, H, h => by
    refine Jm ?_
    have := EU (full := ops) hf ops.toList 0 tm H (fun j o ho => by simpa using ho) h
    rwa [List.range_eq_range', ← Array.length_toList]
  | .cond c x y, hf, Q, tm, H, h => by
    simp only [IU, Bool.and_eq_true] at hf
    unfold vc Nb at h
    split at h
    · rename_i b hb
      exact Gy hb hf.1.1 (fun e => AA x hf.1.2 Q tm H (h.1 e)) (fun e => AA y hf.2 Q tm H (h.2 e))
    · exact h.elim
  | .block id c, hf, Q, tm, H, h => Ah (AA c hf _ tm H h)
  | .loop c, hf, Q, tm, H, ⟨I, μ, h0, h1⟩ => QK I μ h0 h1
  | .rangeFunc .., _, Q, tm, H, h => h
  | .scope _, _, Q, tm, H, h => h
  | .refuse _, _, Q, tm, H, h => h
theorem M5 {f : FuncId} {fn : Func} {c : Code} {args : List IV} {Q : Au → A2 → Prop} (hf : P.funcs[f]? = some fn) (hbd : Bj P f = true) (hb : fn.body = some c) (hN : fn.ntmps = N)
    (hn : (args.length ≤ N ∧ fn.results.toList.all (rvN N) = true ∧ IU N c = true))
    (h : H.Wf → vc P N c (Oz P fn.results.toList H Q) (tm0 args) H) : Aa P f args H Q := by
 subst hN; exact FQ hbd hf hb hn.1 hn.2.1 fun hw => AA c hn.2.2 _ _ _ (h hw)
end Go.Idl
namespace Go.Idl
open Go Go.RowKit
variable {P : Program} {N : Nat} {tm : Tm} {H : A2}
def L3 (x : IV) (a b : Tm → A2 → Prop) (tm : Tm) (H : A2) : Prop := Nb x (a tm H) (b tm H)
def PG (P : Program) (N : Nat) (full : Array Oper) (l : List Oper) (Q : Exit → Tm → A2 → Prop) (d : Option Tmp) (tm : Tm) : IV → A2 → Prop := fun x H' => CJ P N full l Q (Bq tm d x) H'
def OE (Q : Exit → Tm → A2 → Prop) (tm : Tm) : List PanicEntry → A2 → Prop := fun ch H' => Q (.panic ch) tm H'
def XI (P : Program) (N : Nat) (full : Array Oper) (o : Oper) (l : List Oper) (Q : Exit → Tm → A2 → Prop) (H : A2) : Tm → Prop := fun tm => BC P N o tm H (PG P N full l Q o.dst tm) (OE Q tm)
def Sd (P : Program) (N : Nat) (full : Array Oper) (d : Option Tmp) (l : List Oper) (Q : Exit → Tm → A2 → Prop) (H : A2) : Tm → Prop := fun tm => CJ P N full l Q (Bq tm d (.v undef)) H
def DG (b : Bool) (d : Tmp) (tm : Tm) (run skip : Tm → Prop) : Bool → Prop := fun c => CZ c b (run (upd tm d (.v (.bool c)))) (skip (upd tm d (.v (.bool c))))
def Nc (K : IV → A2 → Prop) (x y : IV) (H : A2) : Bool → Prop := fun q => CZ q true (K x H) (K y H)
def Nd (P : Program) (args : List IV) (H : A2) (K : IV → A2 → Prop) (Qp : List PanicEntry → A2 → Prop) : FuncId → List IV → Prop := fun f cap => Aa P f (args ++ cap) H (Jx K Qp)
section
variable {Q : Exit → Tm → A2 → Prop}
@[go_sem] theorem gr : vc P N .skip Q tm H = Q .normal tm H := rfl
@[go_sem] theorem bL {l : Nat} : vc P N (.label l) Q tm H = Q .normal tm H := rfl
@[go_sem] theorem gu {l : Nat} : vc P N (.exit l) Q tm H = Q (.exit l) tm H := rfl
@[go_sem] theorem gv {l : Nat} : vc P N (.goto l) Q tm H = Q (.goto l) tm H := rfl
@[go_sem] theorem jj : vc P N .ret Q tm H = Q .ret tm H := rfl
@[go_sem] theorem jk {a b : Code} : vc P N (.seq a b) Q tm H = vc P N a (Co (vc P N b Q) Q) tm H := rfl
@[go_sem] theorem ay {id : Nat} {l : List Oper} : vc P N (.region id ⟨l⟩ false) Q tm H = CJ P N ⟨l⟩ l Q tm H := rfl
@[go_sem] theorem gw {id : Nat} {l : Array Oper} : vc P N (.region id l true) Q tm H = IWp P N (.region id l true) Q tm H := rfl
@[go_sem] theorem gx {c : Operand} {x y : Code} : vc P N (.cond c x y) Q tm H = L3 (ev tm c) (vc P N x Q) (vc P N y Q) tm H := rfl
@[go_sem] theorem bM {id : Nat} {c : Code} : vc P N (.block id c) Q tm H = vc P N c (D5 id Q) tm H := rfl
@[go_sem] theorem gy {c : Code} : vc P N (.loop c) Q tm H = OD P N c Q tm H := rfl
@[go_sem] theorem V6 {f : Operand} {ps : Array Tmp} {a b : Code} : vc P N (.rangeFunc f ps a b) Q tm H = IWp P N (.rangeFunc f ps a b) Q tm H := rfl
@[go_sem] theorem bN {c : Code} : vc P N (.scope c) Q tm H = IWp P N (.scope c) Q tm H := rfl
variable {K : Tm → A2 → Prop}
@[go_sem] theorem V7 : Co K Q .normal tm H = K tm H := rfl
@[go_sem] theorem XJ {l : Nat} : Co K Q (.exit l) tm H = Q (.exit l) tm H := rfl
@[go_sem] theorem XK {l : Nat} : Co K Q (.goto l) tm H = Q (.goto l) tm H := rfl
@[go_sem] theorem az : Co K Q .ret tm H = Q .ret tm H := rfl
@[go_sem] theorem WN {c : List PanicEntry} : Co K Q (.panic c) tm H = Q (.panic c) tm H := rfl
@[go_sem] theorem US {id : Nat} : D5 id Q .normal tm H = Q .normal tm H := rfl
@[go_sem] theorem WO {id : Nat} : D5 id Q (.exit id) tm H = Q .normal tm H := by simp [D5]
@[go_sem] theorem WQ {id l : Nat} : D5 id Q (.goto l) tm H = Q (.goto l) tm H := rfl
@[go_sem] theorem XL {id : Nat} : D5 id Q .ret tm H = Q .ret tm H := rfl
@[go_sem] theorem V8 {id : Nat} {c : List PanicEntry} : D5 id Q (.panic c) tm H = Q (.panic c) tm H := rfl
@[go_sem] theorem aA {full : Array Oper} : CJ P N full [] Q tm H = Q .normal tm H := rfl
@[go_sem] theorem XM {full : Array Oper} {d : Option Tmp} {op : Op} {t : TypeId} {p : String} {af : Array Edge} {l : List Oper} :
    CJ P N full (⟨d, op, t, p, af, none⟩ :: l) Q tm H = BC P N ⟨d, op, t, p, af, none⟩ tm H (PG P N full l Q d tm) (OE Q tm) := rfl
@[go_sem] theorem aB {full : Array Oper} {l : List Oper} {d : Option Tmp} {x : IV} : PG P N full l Q d tm x H = CJ P N full l Q (Bq tm d x) H := rfl
@[go_sem] theorem bO {c : List PanicEntry} : OE Q tm c H = Q (.panic c) tm H := rfl
def Nf (l : List Oper) (j : Nat) : Option Tmp := (l[j]?).bind (·.dst)
def vcH (d : Option Tmp) (b : Bool) (tm : Tm) (run skip : Tm → Prop) : Prop :=
  match d with
  | some d => CR (tm d) (DG b d tm run skip) skip tm
  | none => False
@[go_sem] theorem WR {full : List Oper} {d : Option Tmp} {op : Op} {t : TypeId} {p : String} {af : Array Edge} {j : Nat} {b : Bool} {l : List Oper} :
    CJ P N ⟨full⟩ (⟨d, op, t, p, af, some (j, b)⟩ :: l) Q tm H = vcH (Nf full j) b tm (XI P N ⟨full⟩ ⟨d, op, t, p, af, some (j, b)⟩ l Q H) (Sd P N ⟨full⟩ d l Q H) := by
 show vcG ⟨full⟩ ⟨d, op, t, p, af, some (j, b)⟩ tm (XI P N ⟨full⟩ ⟨d, op, t, p, af, some (j, b)⟩ l Q H) (Sd P N ⟨full⟩ d l Q H) = vcH ((full[j]?).bind (·.dst)) b tm _ _; unfold vcG vcH; simp only [List.getElem?_toArray]; cases (full[j]?).bind (·.dst) <;> rfl
@[go_sem] theorem bP {full : Array Oper} {o : Oper} {l : List Oper} : XI P N full o l Q H tm = BC P N o tm H (PG P N full l Q o.dst tm) (OE Q tm) := rfl
@[go_sem] theorem aC {full : Array Oper} {d : Option Tmp} {l : List Oper} : Sd P N full d l Q H tm = CJ P N full l Q (Bq tm d (.v undef)) H := rfl
end
@[go_sem] theorem XN {o : Oper} {l : List Oper} : Nf (o :: l) 0 = o.dst := rfl
@[go_sem] theorem XO {o : Oper} {l : List Oper} {j : Nat} : Nf (o :: l) (j + 1) = Nf l j := rfl
@[go_sem] theorem bQ {d : Tmp} {b : Bool} {run skip : Tm → Prop} : vcH (some d) b tm run skip = CR (tm d) (DG b d tm run skip) skip tm := rfl
@[go_sem] theorem aD {d : Tmp} {run skip : Tm → Prop} : DG true d tm run skip true = run (upd tm d (.v (.bool true))) := by simp [DG, CZ]
@[go_sem] theorem aE {d : Tmp} {run skip : Tm → Prop} : DG true d tm run skip false = skip (upd tm d (.v (.bool false))) := by simp [DG, CZ]
@[go_sem] theorem aF {d : Tmp} {run skip : Tm → Prop} : DG false d tm run skip true = skip (upd tm d (.v (.bool true))) := by simp [DG, CZ]
@[go_sem] theorem aG {d : Tmp} {run skip : Tm → Prop} : DG false d tm run skip false = run (upd tm d (.v (.bool false))) := by simp [DG, CZ]
@[go_sem] theorem XP {K : IV → A2 → Prop} {x y : IV} : Nc K x y H true = K x H := by simp [Nc, CZ]
@[go_sem] theorem WS {K : IV → A2 → Prop} {x y : IV} : Nc K x y H false = K y H := by simp [Nc, CZ]
@[go_sem] theorem aH {args cap : List IV} {K : IV → A2 → Prop} {Qp : List PanicEntry → A2 → Prop} {f : FuncId} : Nd P args H K Qp f cap = Aa P f (args ++ cap) H (Jx K Qp) := rfl
@[go_sem] theorem WT {K : Bool → Prop} {sk : Tm → Prop} : CR (.v (.bool true)) K sk tm = K true := by simp [CR]
@[go_sem] theorem V9 {K : Bool → Prop} {sk : Tm → Prop} : CR (.v (.bool false)) K sk tm = K false := by simp [CR]
@[go_sem] theorem Va {K : Bool → Prop} {sk : Tm → Prop} : CR (.v undef) K sk tm = sk tm := rfl
theorem Ee {c : Bool} {K : Bool → Prop} {sk : Tm → Prop} (h1 : c = true → K true) (h2 : c = false → K false) : CR (.v (.bool c)) K sk tm := ⟨h1, h2⟩
@[go_sem] theorem WU {K : Bool → Prop} : splitB (.v (.bool true)) K = K true := by simp [splitB]
@[go_sem] theorem Vb {K : Bool → Prop} : splitB (.v (.bool false)) K = K false := by simp [splitB]
@[go_sem] theorem XQ {a b : Tm → A2 → Prop} : L3 (.v (.bool true)) a b tm H = a tm H := by simp [L3, Nb]
@[go_sem] theorem WV {a b : Tm → A2 → Prop} : L3 (.v (.bool false)) a b tm H = b tm H := by simp [L3, Nb]
@[go_sem] theorem XR {s : Prop} {r : IV} {K : IV → A2 → Prop} {alt : Prop} : AH (some (s, r, H)) K alt = (s ∧ K r H) := rfl
@[go_sem] theorem XS {K : IV → A2 → Prop} {alt : Prop} : AH none K alt = alt := rfl
@[go_sem] theorem XT {f : FuncId} {cap : List IV} {A : FuncId → List IV → Prop} {alt : Prop} : CY (some (f, cap)) A alt = A f cap := rfl
@[go_sem] theorem XU {A : FuncId → List IV → Prop} {alt : Prop} : CY none A alt = alt := rfl
@[go_sem] theorem XV {s : Prop} {r : IV} : AU (some (s, r)) H = some (s, r, H) := rfl
@[go_sem] theorem XW : AU none H = none := rfl
@[go_sem] theorem aI {K : IV → A2 → Prop} {Qp : List PanicEntry → A2 → Prop} {r : IV} : Jx K Qp (.ret r) H = K r H := rfl
@[go_sem] theorem aJ {K : IV → A2 → Prop} {Qp : List PanicEntry → A2 → Prop} {c : List PanicEntry} : Jx K Qp (.pan c) H = Qp c H := rfl
@[go_sem] theorem aK {d : Nat} {x : IV} : Bq tm (some d) x = upd tm d x := rfl
@[go_sem] theorem aL {x : IV} : Bq tm none x = tm := rfl
@[go_sem] theorem gz {d i : Nat} {x : IV} : upd tm d x i = if i = d then x else tm i := rfl
@[go_sem] theorem jo {t : Tmp} : ev tm (.tmp t) = tm t := rfl
@[go_sem] theorem bR {x : Value} : ev tm (.const x) = .v x := rfl
@[go_sem] theorem gA {f : FuncId} : ev tm (.func f) = .v (.func (.func f) #[] #[]) := rfl
@[go_sem] theorem aM {g : Nat} : ev tm (.global g) = .v (.pointer (some ⟨g, 0, none⟩)) := rfl
section
variable {d : Option Tmp} {t : TypeId} {p : String} {af : Array Edge} {gd : Option (Nat × Bool)} {K : IV → A2 → Prop} {Qp : List PanicEntry → A2 → Prop}
@[go_sem] theorem aN {x : Operand} {l : List Operand} {ats : Array TypeId} : BC P N ⟨d, .call ⟨.value x, ⟨l⟩, ats⟩, t, p, af, gd⟩ tm H K Qp =
    CY (fnP (ev tm x)) (Nd P (l.map (ev tm)) H K Qp) (AE P N ⟨d, .call ⟨.value x, ⟨l⟩, ats⟩, t, p, af, gd⟩ tm H K Qp) := rfl
@[go_sem] theorem WW {x y : Operand} {a b : TypeId} : BC P N ⟨d, .call ⟨.builtin .append, #[x, y], #[a, b]⟩, t, p, af, gd⟩ tm H K Qp =
    AH (apI P H a b (ev tm x) (ev tm y)) K (AE P N ⟨d, .call ⟨.builtin .append, #[x, y], #[a, b]⟩, t, p, af, gd⟩ tm H K Qp) := rfl
def Vc (a b : Option (Prop × IV)) : Option (Prop × IV) := match a with | some r => some r | none => b
@[go_sem] theorem aO {p : Prop × IV} {b : Option (Prop × IV)} : Vc (some p) b = some p := rfl
@[go_sem] theorem aP {b : Option (Prop × IV)} : Vc none b = b := rfl
@[go_sem] theorem bS {x : Operand} {a : TypeId} : BC P N ⟨d, .call ⟨.builtin .len, #[x], #[a]⟩, t, p, af, gd⟩ tm H K Qp =
    AH (AU (Vc (EM (P.underlying a) (ev tm x)) (lnX P H a (ev tm x))) H) K (AE P N ⟨d, .call ⟨.builtin .len, #[x], #[a]⟩, t, p, af, gd⟩ tm H K Qp) := by
 show AH (cmX P H .len [ev tm x] [] [a]) K _ = _; congr 1; unfold cmX Vc; simp only; cases EM (P.underlying a) (ev tm x) <;> rfl
@[go_sem] theorem WX {x y : Operand} {a b : TypeId} : BC P N ⟨d, .call ⟨.builtin .delete, #[x, y], #[a, b]⟩, t, p, af, gd⟩ tm H K Qp =
    AH (dlX P H a (ev tm x) (ev tm y)) K (AE P N ⟨d, .call ⟨.builtin .delete, #[x, y], #[a, b]⟩, t, p, af, gd⟩ tm H K Qp) := rfl
@[go_sem] theorem WY {x y : Operand} {a : TypeId} {ok : Bool} : BC P N ⟨d, .lookup a x y ok, t, p, af, gd⟩ tm H K Qp =
    AH (AU (lkX P H a (ev tm x) (ev tm y) ok) H) K (AE P N ⟨d, .lookup a x y ok, t, p, af, gd⟩ tm H K Qp) := rfl
@[go_sem] theorem Se {x y z : Operand} {a : TypeId} : BC P N ⟨d, .mapUpdate a x y z, t, p, af, gd⟩ tm H K Qp =
    AH (muX P H a (ev tm x) (ev tm y) (ev tm z)) K (AE P N ⟨d, .mapUpdate a x y z, t, p, af, gd⟩ tm H K Qp) := rfl
@[go_sem] theorem WZ {x y z : Operand} {a : TypeId} : BC P N ⟨d, .insert a x y z, t, p, af, gd⟩ tm H K Qp =
    AH (muX P H a (ev tm x) (ev tm y) (ev tm z)) K (AE P N ⟨d, .insert a x y z, t, p, af, gd⟩ tm H K Qp) := rfl
@[go_sem] theorem Vd {a : TypeId} : BC P N ⟨d, .makeMap a none, t, p, af, gd⟩ tm H K Qp =
    AH (some (True, .mp H.next, H.new (.map []))) K (AE P N ⟨d, .makeMap a none, t, p, af, gd⟩ tm H K Qp) := rfl
@[go_sem] theorem aQ {x : Operand} : BC P N ⟨d, .move x, t, p, af, gd⟩ tm H K Qp = K (ev tm x) H := true_and _
@[go_sem] theorem W_ {x : Operand} : BC P N ⟨d, .assign x, t, p, af, gd⟩ tm H K Qp = K (ev tm x) H := true_and _
@[go_sem] theorem XX {a : TypeId} : BC P N ⟨d, .alloc a, t, p, af, gd⟩ tm H K Qp = AH (alX P H a) K (AE P N ⟨d, .alloc a, t, p, af, gd⟩ tm H K Qp) := rfl
@[go_sem] theorem bT {a : TypeId} {x : Operand} : BC P N ⟨d, .box a x, t, p, af, gd⟩ tm H K Qp = AH (bxX H (ev tm x)) K (AE P N ⟨d, .box a x, t, p, af, gd⟩ tm H K Qp) := rfl
@[go_sem] theorem aR {a : TypeId} {x : Operand} : BC P N ⟨d, .load a x, t, p, af, gd⟩ tm H K Qp = AH (AU (ldX P H a (ev tm x)) H) K (AE P N ⟨d, .load a x, t, p, af, gd⟩ tm H K Qp) := rfl
@[go_sem] theorem XY {a : TypeId} {x y : Operand} : BC P N ⟨d, .store a x y, t, p, af, gd⟩ tm H K Qp = AH (stX P H a (ev tm x) (ev tm y)) K (AE P N ⟨d, .store a x y, t, p, af, gd⟩ tm H K Qp) := rfl
@[go_sem] theorem Sf {a : TypeId} {x y : Operand} : BC P N ⟨d, .indexAddr a x y, t, p, af, gd⟩ tm H K Qp = AH (AU (ixX P H a (ev tm x) (ev tm y)) H) K (AE P N ⟨d, .indexAddr a x y, t, p, af, gd⟩ tm H K Qp) := rfl
@[go_sem] theorem aS {c a b : Operand} : BC P N ⟨d, .pick c a b, t, p, af, gd⟩ tm H K Qp = splitB (ev tm c) (Nc K (ev tm a) (ev tm b) H) := rfl
@[go_sem] theorem XZ {a : TypeId} {l : List (Nat × Operand)} : BC P N ⟨d, .build a ⟨l⟩, t, p, af, gd⟩ tm H K Qp = AH (AU (bdP P a (l.map fun q => (q.1, ev tm q.2))) H) K (AE P N ⟨d, .build a ⟨l⟩, t, p, af, gd⟩ tm H K Qp) := rfl
@[go_sem] theorem bU {n sz : Nat} {rs : List IV} : bzI n (some (sz, rs)) = some (True, .sl sz (chunks sz n rs)) := rfl
@[go_sem] theorem RS {a : TypeId} {n : Nat} {l : List (Nat × Operand)} : BC P N ⟨d, .buildSlice a (n + 1) ⟨l⟩, t, p, af, gd⟩ tm H K Qp = AH (AU (bzI (n + 1) (bsI P a (n + 1) (l.map fun q => (q.1, ev tm q.2)))) H) K (AE P N ⟨d, .buildSlice a (n + 1) ⟨l⟩, t, p, af, gd⟩ tm H K Qp) := rfl
@[go_sem] theorem RT {a : TypeId} {l : List (Nat × Operand)} : BC P N ⟨d, .buildSlice a 0 ⟨l⟩, t, p, af, gd⟩ tm H K Qp = AE P N ⟨d, .buildSlice a 0 ⟨l⟩, t, p, af, gd⟩ tm H K Qp := rfl
@[go_sem] theorem UT {x : Operand} : BC P N ⟨d, .nilCheck x, t, p, af, gd⟩ tm H K Qp = AH (AU (ncP (ev tm x)) H) K (AE P N ⟨d, .nilCheck x, t, p, af, gd⟩ tm H K Qp) := rfl
@[go_sem] theorem X_ {op : BinOp} {a b : TypeId} {x y : Operand} : BC P N ⟨d, .binOp op a x y b, t, p, af, gd⟩ tm H K Qp = AH (AU (Ot P op a tm x y) H) K (AE P N ⟨d, .binOp op a x y b, t, p, af, gd⟩ tm H K Qp) := rfl
@[go_sem] theorem aT {op : UnOp} {a : TypeId} {x : Operand} : BC P N ⟨d, .unOp op a x, t, p, af, gd⟩ tm H K Qp = AH (AU (unP op (ev tm x)) H) K (AE P N ⟨d, .unOp op a x, t, p, af, gd⟩ tm H K Qp) := rfl
@[go_sem] theorem Ve {a b : TypeId} {x : Operand} : BC P N ⟨d, .convert a b x, t, p, af, gd⟩ tm H K Qp = AH (AU (cvP P a b (ev tm x)) H) K (AE P N ⟨d, .convert a b x, t, p, af, gd⟩ tm H K Qp) := rfl
@[go_sem] theorem OF {a : TypeId} {x : Operand} : BC P N ⟨d, .makeInterface a x, t, p, af, gd⟩ tm H K Qp = AH (AU (mkP P a (ev tm x)) H) K (AE P N ⟨d, .makeInterface a x, t, p, af, gd⟩ tm H K Qp) := rfl
@[go_sem] theorem UU {f : Fn} {x y : List Operand} : BC P N ⟨d, .makeFunc f ⟨x⟩ ⟨y⟩, t, p, af, gd⟩ tm H K Qp = K (.fn f (x.map (ev tm)) (y.map (ev tm))) H := true_and _
@[go_sem] theorem Y0 {a : TypeId} {x : Operand} {lo hi mx : Option Operand} : BC P N ⟨d, .slice a x lo hi mx, t, p, af, gd⟩ tm H K Qp =
    AH (AU (slP P (P.underlying a) (ev tm x) (lo.map (ev tm)) (hi.map (ev tm)) (mx.map (ev tm))) H) K (AE P N ⟨d, .slice a x lo hi mx, t, p, af, gd⟩ tm H K Qp) := rfl
@[go_sem] theorem Sg {a : TypeId} {x : Operand} {f : Nat} : BC P N ⟨d, .fieldAddr a x f, t, p, af, gd⟩ tm H K Qp = AH (AU (fdP P (P.underlying a) (ev tm x) f) H) K (AE P N ⟨d, .fieldAddr a x f, t, p, af, gd⟩ tm H K Qp) := rfl
@[go_sem] theorem Y1 {a : TypeId} {x : Operand} {f : Nat} : BC P N ⟨d, .field a x f, t, p, af, gd⟩ tm H K Qp = AH (AU (fvP P (P.underlying a) (ev tm x) f) H) K (AE P N ⟨d, .field a x f, t, p, af, gd⟩ tm H K Qp) := rfl
@[go_sem] theorem Y2 {a : TypeId} {x y : Operand} : BC P N ⟨d, .index a x y, t, p, af, gd⟩ tm H K Qp = AH (AU (ivP P (P.underlying a) (ev tm x) (ev tm y)) H) K (AE P N ⟨d, .index a x y, t, p, af, gd⟩ tm H K Qp) := rfl
@[go_sem] theorem Vf {x : Operand} {n : Nat} : BC P N ⟨d, .extract x n, t, p, af, gd⟩ tm H K Qp = AH (AU (exP (ev tm x) n) H) K (AE P N ⟨d, .extract x n, t, p, af, gd⟩ tm H K Qp) := rfl
end
@[go_sem] theorem gB {i : Nat} : tm0 [] i = .v undef := by simp [tm0]
@[go_sem] theorem bV {x : IV} {l : List IV} : tm0 (x :: l) 0 = x := rfl
@[go_sem] theorem bW {x : IV} {l : List IV} {i : Nat} : tm0 (x :: l) (i + 1) = tm0 l i := by simp [tm0]
section
@[go_sem] theorem aU {cs : List IV} : AN (.ag cs) = some cs := rfl
@[go_sem] theorem aV {sz : Nat} {es : List (List IV)} : AN (.sl sz es) = some [.sl sz es] := rfl
@[go_sem] theorem aW {cs : List IV} : AN (.cp cs) = some [.cp cs] := rfl
@[go_sem] theorem aX {f : Fn} {a b : List IV} : AN (.fn f a b) = some [.fn f a b] := rfl
@[go_sem] theorem Y3 {t : TypeId} {x : IV} : AN (.ifc t x) = some [.ifc t x] := rfl
@[go_sem] theorem bX {k o : Nat} : AN (.p k o) = some [.p k o] := rfl
@[go_sem] theorem aY {k : Nat} : AN (.mp k) = some [.mp k] := rfl
@[go_sem] theorem aZ {k n : Nat} : AN (.os k n) = some [.os k n] := rfl
@[go_sem] theorem a_ {k n o : Nat} : AN (.pr k n o) = some [.pr k n o] := rfl
@[go_sem] theorem b7 {k n o : Nat} : AN (.bs k o n) = some [.bs k o n] := rfl
@[go_sem] theorem Y4 {k : IntKind} {n : Int} : AN (.v (.int k n)) = some [.v (.int k n)] := rfl
@[go_sem] theorem X0 {b : Bool} : AN (.v (.bool b)) = some [.v (.bool b)] := rfl
@[go_sem] theorem Y5 {s : ByteArray} : AN (.v (.string s)) = some [.v (.string s)] := rfl
@[go_sem] theorem Vg {a : Option Addr} {n c : Nat} : AN (.v (.slice a n c)) = some [.v (.slice a n c)] := rfl
@[go_sem] theorem Y6 {a : Option Addr} : AN (.v (.pointer a)) = some [.v (.pointer a)] := rfl
@[go_sem] theorem Y7 {a : Option Nat} : AN (.v (.map a)) = some [.v (.map a)] := rfl
@[go_sem] theorem X1 {f : Fn} {a b : Array Value} : AN (.v (.func f a b)) = some [.v (.func f a b)] := rfl
@[go_sem] theorem Si  : AN (.v .nilFunc) = some [.v .nilFunc] := rfl
@[go_sem] theorem Vh {t : TypeId} {x : Value} : AN (.v (.iface t x)) = some [.v (.iface t x)] := rfl
@[go_sem] theorem RU  : AN (.v .nilIface) = some [.v .nilIface] := rfl
@[go_sem] theorem Y8 {xs : Array Value} : AN (.v (.agg xs)) = if xs.toList.all (·.oneCell') = true then some (xs.toList.map .v) else none := rfl
end
attribute [go_sem] tyB tyR
attribute [go_sem] Value.oneCell' bsI DT rep Value.cells chunks
attribute [go_sem] Ot ldX ldN ldH ldP stX ixX ixP alX bxX fdP fvP ivP EM Qw shI U_ V0 unP cvP ncP exP mkP slP FG N0 LX apI Ow elI DE E6 fnP HA
section
variable {P : Program} {op : BinOp} {t : TypeId}
@[go_sem] theorem jq {a b : Value} : HB P op t (.v a) (.v b) = (match Qw P op t a b with | some (s, r) => some (s, .v r) | none => none) := rfl
@[go_sem] theorem jr {k off : Nat} : HB P op t (.p k off) (.v (.pointer none)) = (match P.underlying t with
    | some (.pointer _) => match op with | .eql => some (True, .v (.bool false)) | .neq => some (True, .v (.bool true)) | _ => none
    | _ => none) := rfl
@[go_sem] theorem gC {cs : List IV} : HB P op t (.cp cs) (.v (.pointer none)) = (match P.underlying t with
    | some (.pointer _) => match op with | .eql => some (True, .v (.bool false)) | .neq => some (True, .v (.bool true)) | _ => none
    | _ => none) := rfl
@[go_sem] theorem gD {k : Nat} : HB P op t (.mp k) (.v (.map none)) = (match P.underlying t with
    | some (.map _ _) => match op with | .eql => some (True, .v (.bool false)) | .neq => some (True, .v (.bool true)) | _ => none
    | _ => none) := rfl
@[go_sem] theorem gE {f : Fn} {a b : List IV} : HB P op t (.fn f a b) (.v .nilFunc) = (match P.underlying t with
    | some (.func _ _ _) => match op with | .eql => some (True, .v (.bool false)) | .neq => some (True, .v (.bool true)) | _ => none
    | _ => none) := rfl
@[go_sem] theorem gF {sz : Nat} {es : List (List IV)} {y : IV} : HB P op t (.sl sz es) y = none := by cases y <;> rfl
@[go_sem] theorem gG {a b c d : List UInt8} : HB P op t (.ag [.v (str a), .v (str b)]) (.ag [.v (str c), .v (str d)]) = (match P.underlying t with
    | some (.struct fs) =>
      match fs.toList with
      | [f1, f2] => match op with
        | .eql => some (P.underlying f1.type = some .string ∧ P.underlying f2.type = some .string ∧ f1.offset = 0 ∧ ¬ f1.name = "_" ∧ f2.offset = 1 ∧ ¬ f2.name = "_" ∧ P.stoodInHeld t = false ∧ P.eqGuardType P.depth t = false, .v (.bool (decide (a = c ∧ b = d))))
        | .neq => some (P.underlying f1.type = some .string ∧ P.underlying f2.type = some .string ∧ f1.offset = 0 ∧ ¬ f1.name = "_" ∧ f2.offset = 1 ∧ ¬ f2.name = "_" ∧ P.stoodInHeld t = false ∧ P.eqGuardType P.depth t = false, .v (.bool (!decide (a = c ∧ b = d))))
        | _ => none
      | _ => none
    | _ => none) := by
  simp only [HB, agE, str, C3]
  cases P.underlying t with
  | none => rfl
  | some d =>
    cases d <;> try rfl
    rename_i fs
    simp only
    rcases fs.toList with _ | ⟨f1, _ | ⟨f2, _ | ⟨f3, l⟩⟩⟩ <;> first | rfl | (cases op <;> rfl)
end
attribute [go_sem] Qu
@[go_sem] theorem b8 : AQ True = True := by simp [AQ]
theorem Bw {c : Bool} {a b : Tm → A2 → Prop} (h1 : c = true → a tm H) (h2 : c = false → b tm H) : L3 (.v (.bool c)) a b tm H := ⟨h1, h2⟩
theorem Fp {c : Bool} {K : Bool → Prop} (h1 : c = true → K true) (h2 : c = false → K false) : splitB (.v (.bool c)) K := ⟨h1, h2⟩
theorem B5 {c : Code} {Q : Exit → Tm → A2 → Prop} (I : Tm → A2 → Prop) (μ : Tm → A2 → Nat) (h0 : UpI I tm H)
    (h : ∀ I' μ', I' = I → μ' = μ → ∀ tm H, I tm H → IWp P N c (Co (Up I' μ' (μ tm H)) Q) tm H) : OD P N c Q tm H := ⟨I, μ, h0, h I μ rfl rfl⟩
theorem Up.of {I I' : Tm → A2 → Prop} {μ μ' : Tm → A2 → Nat} {m : Nat} (hI : I' = I) (hμ : μ' = μ) (h : I tm H) (hm : μ tm H < m) : Up I' μ' m tm H := by
 subst hI; subst hμ; exact .same h hm
def OG (x : Option (Prop × List IV)) (H0 : A2) (Q : Au → A2 → Prop) (H : A2) : Prop :=
  match x with
  | some (s, is) => s ∧ JA (N9 is) H0 Q H
  | none => False
section
variable {H0 : A2} {rs : List ResultVar} {Q : Au → A2 → Prop}
theorem J0 : M0 P rs H0 Q tm H = OG (FH P H tm rs) H0 Q H := by
 unfold OG M0; cases FH P H tm rs with
 | none => simp
 | some x =>
  obtain ⟨s, is⟩ := x; exact propext ⟨fun ⟨s', is', h1, h2, h3⟩ => by cases h1; exact ⟨h2, h3⟩, fun ⟨h2, h3⟩ => ⟨s, is, rfl, h2, h3⟩⟩
@[go_sem] theorem bY : Oz P rs H0 Q .ret tm H = OG (FH P H tm rs) H0 Q H := J0
@[go_sem] theorem X2 : Oz P rs H0 Q .normal tm H = OG (FH P H tm rs) H0 Q H := J0
@[go_sem] theorem b9 {s : Prop} {is : List IV} : OG (some (s, is)) H0 Q H = (s ∧ JA (N9 is) H0 Q H) := rfl
theorem AL {r : IV} (he : Ext H0 H) (hn : NB H0.next r) (h : Q (.ret r) H0) : JA r H0 Q H :=
  .inl ⟨r, H0, he.Bp, .wk r r (fun _ _ _ h => h) hn, h⟩
theorem CK {r : IV} (h : Q (.ret r) H) : JA r H0 Q H := .inr ⟨r, H, .inl (.refl r H), h⟩
theorem AX {r r' : IV} {J : A2} (he : BZ H0 H J) (hf : Fz H J r r') (h : Q (.ret r') J) : JA r H0 Q H := .inl ⟨r', J, he, hf, h⟩
end
attribute [go_sem] FH rvI N9
@[go_sem] theorem bf {α : Type} {a : α} {l : List α} : (a :: l)[0]? = some a := rfl
@[go_sem] theorem bg {α : Type} {a : α} {l : List α} {i : Nat} : (a :: l)[i + 1]? = l[i]? := rfl
def intOf : IV → Int
  | .v (.int _ n) => n
  | _ => 0
@[go_sem] theorem intOf_int {k : IntKind} {n : Int} : intOf (.v (.int k n)) = n := rfl
end Go.Idl
