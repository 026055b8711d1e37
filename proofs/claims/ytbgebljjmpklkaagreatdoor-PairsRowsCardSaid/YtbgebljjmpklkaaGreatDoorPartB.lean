/- Their rows, and the pairs of these, in whatever order: the saying of the case law 20 Part 2. Conditions: none. -/
import Derived.Test.YtbgebljjmpklkaaGreatDoorPartA
set_option linter.unusedSimpArgs false
set_option linter.unusedVariables false
namespace Go.Idl
open Go Go.RowKit
variable {P : Program} {N : Nat} {tm : Tm} {H : A2}
def AV (x : Option (Prop × IV)) (H : A2) : Option (Prop × IV × A2) :=
  match x with
  | some (s, r) => some (s, r, H)
  | none => none
def AJ (x : Option (Prop × IV × A2)) (K : IV → A2 → Prop) (alt : Prop) : Prop :=
  match x with
  | some (s, r, H) => s ∧ K r H
  | none => alt
def Dd (x : Option (FuncId × List IV)) (A : FuncId → List IV → Prop) (alt : Prop) : Prop :=
  match x with
  | some (f, cap) => A f cap
  | none => alt
def ldX (P : Program) (H : A2) (t : TypeId) (x : IV) : Option (Prop × IV) :=
  match x with
  | .p k off => ldN P H t (.p k off)
  | .pr k n off => ldN P H t (.pr k n off)
  | y => ldP P t y
def stX (P : Program) (H : A2) (t : TypeId) (x y : IV) : Option (Prop × IV × A2) :=
  match x with
  | .p k off =>
    match H.obj k, AO y with
    | some (.cells cs), some vc => some (AR (vc.length = P.cellsOf t) ∧ AR (0 < P.cellsOf t) ∧ AR (off + vc.length ≤ cs.length), .v undef, H.set k (.cells (CH cs vc off)))
    | some (.ty T (.cells cs)), some vc => some (AR (vc.length = P.cellsOf t) ∧ AR (0 < P.cellsOf t) ∧ AR (off + vc.length ≤ cs.length), .v undef, H.set k (.ty T (.cells (CH cs vc off))))
    | _, _ => none
  | .pr k n off =>
    match H.obj k, AO y with
    | some (.row sz es), some vc => some (AR (es.length = n) ∧ AR (vc.length = P.cellsOf t) ∧ AR (0 < P.cellsOf t) ∧ AR (off % sz + vc.length ≤ sz) ∧ AR (off < es.length * sz), .v undef, H.set k (.row sz (Cs sz es vc off)))
    | _, _ => none
  | _ => none
def ixX (P : Program) (H : A2) (t : TypeId) (x i : IV) : Option (Prop × IV) :=
  match x with
  | .os k n =>
    match P.underlying t, H.obj k, i with
    | some (.slice e), some (.row _ es), .v (.int _ m) => some (AR (es.length = n) ∧ AR (0 < P.cellsOf e) ∧ AR (0 ≤ m) ∧ AR (m < n), .pr k n (m.toNat * P.cellsOf e))
    | _, _, _ => none
  | y => ixP P (P.underlying t) y i
def alX (P : Program) (H : A2) (t : TypeId) : Option (Prop × IV × A2) :=
  match zeroOf P t with
  | some z => if z.cells.toList.all (·.oneCell') = true then some (True, .p H.next 0, H.new (tyB P t (.cells (z.cells.toList.map .v)))) else none
  | none => none
def bxX (H : A2) (x : IV) : Option (Prop × IV × A2) :=
  match AO x with
  | some cs => some (True, .p H.next 0, H.new (.cells cs))
  | none => none
def bzI (n : Nat) (x : Option (Nat × List IV)) : Option (Prop × IV) :=
  match x with
  | some (sz, rs) => some (True, .sl sz (chunks sz n rs))
  | none => none
def cmX (P : Program) (H : A2) (b : Builtin) (l ts : List IV) (ats : List TypeId) : Option (Prop × IV × A2) :=
  match b, l, ats with
  | .delete, [x, i], [t, _] => dlX P H t x i
  | .len, [x], [t] => match EU (P.underlying t) x with | some (s, r) => some (s, r, H) | none => AV (lnX P H t x) H
  | _, _, _ => none
def efX (P : Program) (H : A2) (tm : Tm) (op : Op) : Option (Prop × IV × A2) :=
  match op with
  | .alloc t => alX P H t
  | .box _ x => bxX H (ev tm x)
  | .load t x => AV (ldX P H t (ev tm x)) H
  | .store t x y => stX P H t (ev tm x) (ev tm y)
  | .indexAddr t x i => AV (ixX P H t (ev tm x) (ev tm i)) H
  | .buildSlice t (n + 1) ps => AV (bzI (n + 1) (bsI P t (n + 1) (ps.toList.map fun q => (q.1, ev tm q.2)))) H
  | .lookup t x i ok => AV (lkX P H t (ev tm x) (ev tm i) ok) H
  | .mapUpdate t x i y => muX P H t (ev tm x) (ev tm i) (ev tm y)
  | .insert t x i y => muX P H t (ev tm x) (ev tm i) (ev tm y)
  | .makeMap _ none => some (True, .mp H.next, H.new (.map []))
  | .call ⟨.builtin b, l, ats⟩ => cmX P H b (l.toList.map (ev tm)) [] ats.toList
  | op => AV (evP P tm op) H
theorem Jj {o : Oper} {K : IV → A2 → Prop} {Qp : List PanicEntry → A2 → Prop} {t : TypeId} {x : Operand} {s : Prop} {r : IV} (ho : o.op = .load t x) (hok : okO N o = true)
    (h : ldX P H t (ev tm x) = some (s, r)) (hs : s) (hk : K r H) : AD P N o tm H K Qp := by
 have alt : ldP P t (ev tm x) = some (s, r) → AD P N o tm H K Qp := fun h => CI hok (by rw [ho]; exact h) hs hk; cases hx : ev tm x <;> rw [hx] at h alt
 case p k off => exact Ke ho hok (by rw [hx]; exact h) hs hk
 case pr k n off => exact Ke ho hok (by rw [hx]; exact h) hs hk
 all_goals exact alt h
theorem Iy {o : Oper} {K : IV → A2 → Prop} {Qp : List PanicEntry → A2 → Prop} {s : Prop} {r : IV} {H' : A2} (hok : okO N o = true) (h : efX P H tm o.op = some (s, r, H')) (hs : s) (hk : K r H') : AD P N o tm H K Qp := by
 have pure' : AV (evP P tm o.op) H = some (s, r, H') → AD P N o tm H K Qp := by
  intro h; unfold AV at h; split at h
  ·rename_i s' r' he; simp only [Option.some.injEq, Prod.mk.injEq] at h; obtain ⟨rfl, rfl, rfl⟩ := h; exact CI hok he hs hk
  ·cases h
 cases ho : o.op <;> rw [ho] at h pure'
 case alloc t =>
  simp only [efX, alX] at h; split at h
  ·rename_i z hz; split at h
   ·rename_i hone; simp only [Option.some.injEq, Prod.mk.injEq] at h; obtain ⟨_, rfl, rfl⟩ := h; exact O3 ho hz hone hk
   ·cases h
  ·cases h
 case box t x =>
  simp only [efX, bxX] at h; split at h
  ·rename_i cs hc; simp only [Option.some.injEq, Prod.mk.injEq] at h; obtain ⟨_, rfl, rfl⟩ := h; exact Sb ho hok hc hk
  ·cases h
 case load t x =>
  simp only [efX, AV] at h; split at h
  ·rename_i s' r' hl; simp only [Option.some.injEq, Prod.mk.injEq] at h; obtain ⟨rfl, rfl, rfl⟩ := h; exact Jj ho hok hl hs hk
  ·cases h
 case store t x y =>
  simp only [efX, stX] at h; split at h
  ·rename_i k off hx; split at h
   ·rename_i cs vc hk' hv; simp only [Option.some.injEq, Prod.mk.injEq] at h; obtain ⟨rfl, rfl, rfl⟩ := h; exact O5 ho hok hx hk' hv hs.1 hs.2.1 hs.2.2 hk
   ·rename_i T cs vc hk' hv; simp only [Option.some.injEq, Prod.mk.injEq] at h; obtain ⟨rfl, rfl, rfl⟩ := h; exact MN ho hok hx hk' hv hs.1 hs.2.1 hs.2.2 hk
   ·cases h
  ·rename_i k n off hx; split at h
   ·rename_i sz es vc hk' hv; simp only [Option.some.injEq, Prod.mk.injEq] at h; obtain ⟨rfl, rfl, rfl⟩ := h; exact MO ho hok hx hk' hs.1 hv hs.2.1 hs.2.2.1 hs.2.2.2.1 hs.2.2.2.2 hk
   ·cases h
  ·cases h
 case indexAddr t x i =>
  simp only [efX, AV] at h; split at h
  ·rename_i s' r' hl; simp only [Option.some.injEq, Prod.mk.injEq] at h; obtain ⟨rfl, rfl, rfl⟩ := h; unfold ixX at hl; split at hl
   ·rename_i k n hx; split at hl
    ·rename_i e sz es kk m hu hk' hi; simp only [Option.some.injEq, Prod.mk.injEq] at hl; obtain ⟨rfl, rfl⟩ := hl; exact PE ho hok hu hx hi hk' hs.1 hs.2.1 hs.2.2.1 hs.2.2.2 hk
    ·cases hl
   ·exact CI hok (by rw [ho]; exact hl) hs hk
  ·cases h
 case buildSlice t n ps =>
  cases n with
  | zero => exact pure' h
  | succ n =>
   simp only [efX, AV] at h; split at h
   ·rename_i s' r' hl; simp only [Option.some.injEq, Prod.mk.injEq] at h; obtain ⟨rfl, rfl, rfl⟩ := h; unfold bzI at hl; split at hl
    ·rename_i sz rs hb; simp only [Option.some.injEq, Prod.mk.injEq] at hl; obtain ⟨_, rfl⟩ := hl; exact E6 ho hok hb hk
    ·cases hl
   ·cases h
 case lookup t x i k =>
  simp only [efX, AV] at h; split at h
  ·rename_i s' r' hl; simp only [Option.some.injEq, Prod.mk.injEq] at h; obtain ⟨rfl, rfl, rfl⟩ := h; exact Hr ho hok hl hs hk
  ·cases h
 case mapUpdate t x i y =>
  simp only [efX] at h; exact JA ho hok h hs hk
 case insert t x i y =>
  simp only [efX] at h; exact MQ ho hok h hs hk
 case makeMap t m =>
  cases m with
  | none =>
   simp only [efX, Option.some.injEq, Prod.mk.injEq] at h; obtain ⟨rfl, rfl, rfl⟩ := h; exact LD ho hk
  | some m => exact pure' h
 case call c =>
  obtain ⟨ce, l, ats⟩ := c; cases ce with
  | builtin b =>
   simp only [efX, cmX] at h; split at h
   ·rename_i x i t t' h1 h2; obtain ⟨ox, oi, rfl, rfl, rfl⟩ : ∃ ox oi, l = #[ox, oi] ∧ ev tm ox = x ∧ ev tm oi = i := by
     obtain ⟨l⟩ := l
     match l, h1 with
     | [p, q], h1 => simp at h1; exact ⟨p, q, rfl, h1.1, h1.2⟩
    have e2 : ats = #[t, t'] := Array.toList_inj.1 h2; subst e2; exact MR ho hok h hs hk
   ·rename_i x t h1 h2; obtain ⟨ox, rfl, rfl⟩ : ∃ ox, l = #[ox] ∧ ev tm ox = x := by
     obtain ⟨l⟩ := l
     match l, h1 with
     | [p], h1 => simp at h1; exact ⟨p, rfl, h1⟩
    have e2 : ats = #[t] := Array.toList_inj.1 h2; subst e2; split at h
    ·rename_i s' r' hl; simp only [Option.some.injEq, Prod.mk.injEq] at h; obtain ⟨rfl, rfl, rfl⟩ := h; exact CI hok (by rw [ho]; exact hl) hs hk
    ·unfold AV at h; split at h
     ·rename_i s' r' hl; simp only [Option.some.injEq, Prod.mk.injEq] at h; obtain ⟨rfl, rfl, rfl⟩ := h; exact MS ho hok hl hk
     ·cases h
   ·cases h
  | _ => exact pure' h
 all_goals exact pure' h
def splitB (x : IV) (K : Bool → Prop) : Prop :=
  match x with
  | .v (.bool c) => (c = true → K true) ∧ (c = false → K false)
  | _ => False
def D9 (x : IV) (K : Bool → Prop) (sk : Tm → Prop) (tm : Tm) : Prop :=
  match x with
  | .v (.bool c) => (c = true → K true) ∧ (c = false → K false)
  | .v _ => sk tm
  | _ => False
def De (c b : Bool) (x y : Prop) : Prop := if c = b then x else y
def BL (P : Program) (N : Nat) (o : Oper) (tm : Tm) (H : A2) (K : IV → A2 → Prop) (Qp : List PanicEntry → A2 → Prop) : Prop :=
  match o.op with
  | .call { callee := .value x, args, .. } => Dd (fnP (ev tm x)) (fun f cap => Ac P f (args.toList.map (ev tm) ++ cap) H (LS K Qp)) (AD P N o tm H K Qp)
  | .call { callee := .builtin .append, args, argTypes, .. } =>
    match args.toList, argTypes.toList with
    | [x, y], [t, t'] => AJ (apI P H t t' (ev tm x) (ev tm y)) K (AD P N o tm H K Qp)
    | _, _ => AD P N o tm H K Qp
  | .pick c a b => splitB (ev tm c) fun q => De q true (K (ev tm a) H) (K (ev tm b) H)
  | op => AJ (efX P H tm op) K (AD P N o tm H K Qp)
theorem Es {o : Oper} {K : IV → A2 → Prop} {Qp : List PanicEntry → A2 → Prop} (hok : okO N o = true) (h : BL P N o tm H K Qp) : AD P N o tm H K Qp := by
 unfold BL at h; split at h
 ·rename_i x args ats ho; unfold Dd at h; split at h
  ·rename_i f cap hf; exact Kk ho hok hf h
  ·exact h
 ·rename_i args ats ho; split at h
  ·rename_i x y t t' h1 h2; unfold AJ at h; split at h
   ·rename_i s r H' he; have e1 : args = #[x, y] := Array.toList_inj.1 h1; have e2 : ats = #[t, t'] := Array.toList_inj.1 h2; subst e1; subst e2; exact Hq ho hok he h.1 h.2
   ·exact h
  ·exact h
 ·rename_i c a b ho; unfold splitB at h; split at h
  ·rename_i q hq; cases q with
   | true =>
    have h2 := h.1 rfl; refine CI hok (i := ev tm a) (s := True) ?_ trivial (by simpa [De] using h2); rw [ho]; simp [evP, hq]
   | false =>
    have h2 := h.2 rfl; refine CI hok (i := ev tm b) (s := True) ?_ trivial (by simpa [De] using h2); rw [ho]; simp [evP, hq]
  ·exact h.elim
 ·unfold AJ at h; split at h
  ·rename_i s r H' he; exact Iy hok he h.1 h.2
  ·exact h
def vcG (full : Array Oper) (o : Oper) (tm : Tm) (run skip : Tm → Prop) : Prop :=
  match o.guard with
  | none => run tm
  | some (j, b) =>
    match (full[j]?).bind (·.dst) with
    | some d => D9 (tm d) (fun c => De c b (run (upd tm d (.v (.bool c)))) (skip (upd tm d (.v (.bool c))))) skip tm
    | none => False
def D2 (P : Program) (N : Nat) (full : Array Oper) : List Oper → (Exit → Tm → A2 → Prop) → Tm → A2 → Prop
  | [], Q, tm, H => Q .normal tm H
  | o :: l, Q, tm, H => vcG full o tm
      (fun tm => BL P N o tm H (fun x H' => D2 P N full l Q (Bw tm o.dst x) H') (fun ch H' => Q (.panic ch) tm H'))
      (fun tm => D2 P N full l Q (Bw tm o.dst (.v undef)) H)
theorem Hs {d : Nat} {x : IV} (h : tm d = x) : upd tm d x = tm := by
 funext i; unfold upd; split
 ·rename_i e; rw [e, h]
 ·rfl
theorem F0 {full : Array Oper} (hok : full.toList.all (okO N) = true) {Q : Exit → Tm → A2 → Prop} : ∀ (l : List Oper) (i : Nat) (tm : Tm) (H : A2), (∀ (j : Nat) (o : Oper), l[j]? = some o → full[i + j]? = some o) →
    D2 P N full l Q tm H → K7 P N full (List.range' i l.length) Q tm H
  | [], i, tm, H, _, h => NY h
  | o :: l, i, tm, H, hl, h => by
    have ho : full[i]? = some o := hl 0 o rfl
    have hl' : ∀ (j : Nat) (o : Oper), l[j]? = some o → full[i + 1 + j]? = some o := fun j o' h => by
      have := hl (j + 1) o' (by simpa using h)
      rwa [show i + (j + 1) = i + 1 + j by omega] at this
    have hall := List.all_eq_true.1 hok
    have hoo : okO N o = true := hall o (by rw [Array.mem_toList_iff]; exact Array.mem_of_getElem? ho)
    have run : (∀ (w : World) (g : Gs) (a : Act), RA w g a tm → a.tmps.size = N → Region.wanted o (yielded full a.tmps) = true) →
        BL P N o tm H (fun x H' => D2 P N full l Q (Bw tm o.dst x) H') (fun ch H' => Q (.panic ch) tm H') → K7 P N full (i :: List.range' (i + 1) l.length) Q tm H := fun hg h =>
      K8 ho hg ((Es hoo h).mono (fun x H' h => F0 hok l (i + 1) _ _ hl' h) fun _ _ h => h)
    have skip : (∀ (w : World) (g : Gs) (a : Act), RA w g a tm → a.tmps.size = N → Region.wanted o (yielded full a.tmps) = false) →
        D2 P N full l Q (Bw tm o.dst (.v undef)) H → K7 P N full (i :: List.range' (i + 1) l.length) Q tm H := fun hg h =>
      RU ho hg (F0 hok l (i + 1) _ _ hl' h)
    show K7 P N full (i :: List.range' (i + 1) l.length) Q tm H
    unfold D2 vcG at h
    split at h
    · rename_i hgd
      exact run (fun w g a r hN => by simp [Region.wanted, hgd]) h
    · rename_i j b hgd
      split at h
      · rename_i d hd
        have hdN : d < N := by
          rw [Option.bind_eq_some_iff] at hd
          obtain ⟨o', h1, h2⟩ := hd
          have := hall o' (by rw [Array.mem_toList_iff]; exact Array.mem_of_getElem? h1)
          simp only [okO, h2, Bool.and_eq_true, decide_eq_true_eq] at this
          exact this.2
        unfold D9 at h
        split at h
        · rename_i c hc
          have hy : ∀ (w : World) (g : Gs) (a : Act), RA w g a tm → a.tmps.size = N → yielded full a.tmps j = some c := by
            intro w g a r hN
            have h1 := r d (by rw [hN]; exact hdN)
            rw [hc] at h1
            have h2 := h1.v_eq
            have h3 : a.tmps[d]? = some (.bool c) := by
              have hlt : d < a.tmps.size := by rw [hN]; exact hdN
              rw [Array.getElem?_eq_getElem hlt]
              simpa [hlt] using h2
            simp [yielded, hd, h3]
          have hw : ∀ (w : World) (g : Gs) (a : Act), RA w g a tm → a.tmps.size = N → Region.wanted o (yielded full a.tmps) = (c == b) := by
            intro w g a r hN
            simp [Region.wanted, hgd, hy w g a r hN]
          have key : De c b (BL P N o tm H (fun x H' => D2 P N full l Q (Bw tm o.dst x) H') (fun ch H' => Q (.panic ch) tm H')) (D2 P N full l Q (Bw tm o.dst (.v undef)) H) := by
            cases c with
            | true =>
              have := h.1 rfl
              dsimp only at this
              rwa [Hs hc] at this
            | false =>
              have := h.2 rfl
              dsimp only at this
              rwa [Hs hc] at this
          unfold De at key
          split at key
          · rename_i e
            exact run (fun w g a r hN => by rw [hw w g a r hN]; simp [e]) key
          · rename_i e
            exact skip (fun w g a r hN => by rw [hw w g a r hN]; simp [e]) key
        · rename_i y hne hc
          refine skip (fun w g a r hN => ?_) h
          have h1 := r d (by rw [hN]; exact hdN)
          rw [hc] at h1
          have h2 := h1.v_eq
          have hlt : d < a.tmps.size := by rw [hN]; exact hdN
          have h3 : a.tmps[d]? = some y := by
            rw [Array.getElem?_eq_getElem hlt]
            simpa [hlt] using h2
          have h4 : yielded full a.tmps j = none := by
            simp only [yielded, hd, Option.bind_some, h3]
            split
            · rename_i c e
              cases e
              exact (hne c rfl).elim
            · rfl
          simp [Region.wanted, hgd, h4]
        · exact h.elim
      · exact h.elim
def Oa (x : IV) (a b : Prop) : Prop :=
  match x with
  | .v (.bool c) => (c = true → a) ∧ (c = false → b)
  | _ => False
def PL (P : Program) (N : Nat) (c : Code) (Q : Exit → Tm → A2 → Prop) (tm : Tm) (H : A2) : Prop :=
  ∃ (I : Tm → A2 → Prop) (μ : Tm → A2 → Nat), UpI I tm H ∧ ∀ tm H, I tm H → IWp P N c (CC (Up I μ (μ tm H)) Q) tm H
def vc (P : Program) (N : Nat) : Code → (Exit → Tm → A2 → Prop) → Tm → A2 → Prop
  | .skip, Q, tm, H => Q .normal tm H
  | .label _, Q, tm, H => Q .normal tm H
  | .exit id, Q, tm, H => Q (.exit id) tm H
  | .goto l, Q, tm, H => Q (.goto l) tm H
  | .ret, Q, tm, H => Q .ret tm H
  | .seq a b, Q, tm, H => vc P N a (CC (vc P N b Q) Q) tm H
  | .region id ops draw, Q, tm, H => match draw with | true => IWp P N (.region id ops true) Q tm H | false => D2 P N ops ops.toList Q tm H
  | .cond c x y, Q, tm, H => Oa (ev tm c) (vc P N x Q tm H) (vc P N y Q tm H)
  | .block id c, Q, tm, H => vc P N c (Dm id Q) tm H
  | .loop c, Q, tm, H => PL P N c Q tm H
  | c, Q, tm, H => IWp P N c Q tm H
def JB (N : Nat) : Code → Bool
  | .seq a b => JB N a && JB N b
  | .region _ ops draw => match draw with | true => true | false => ops.toList.all (okO N)
  | .cond c x y => opd N c && JB N x && JB N y
  | .block _ c => JB N c
  | .loop c => JB N c
  | _ => true
theorem AF : ∀ (c : Code), JB N c = true → ∀ (Q : Exit → Tm → A2 → Prop) (tm : Tm) (H : A2), vc P N c Q tm H → IWp P N c Q tm H
  | .skip, _, Q, tm, H, h => Tv h
  | .label _, _, Q, tm, H, h => RT h
  | .exit _, _, Q, tm, H, h => Tw h
  | .goto _, _, Q, tm, H, h => Tx h
  | .ret, _, Q, tm, H, h => Wv h
  | .seq a b, hf, Q, tm, H, h => by
    simp only [JB, Bool.and_eq_true] at hf
    refine MH ((AF a hf.1 _ tm H h).mono fun e tm' H' q => ?_)
    cases e with
    | normal => exact AF b hf.2 Q tm' H' q
    | _ => exact q
  | .region id ops true, _, Q, tm, H, h => h
  | .region id ops false, hf, Q, tm, H, h => by
    refine K9 ?_
    have := F0 (full := ops) hf ops.toList 0 tm H (fun j o ho => by simpa using ho) h
    rwa [List.range_eq_range', ← Array.length_toList]
  | .cond c x y, hf, Q, tm, H, h => by
    simp only [JB, Bool.and_eq_true] at hf
    unfold vc Oa at h
    split at h
    · rename_i b hb
      exact Hg hb hf.1.1 (fun e => AF x hf.1.2 Q tm H (h.1 e)) (fun e => AF y hf.2 Q tm H (h.2 e))
    · exact h.elim
  | .block id c, hf, Q, tm, H, h => Ak (AF c hf _ tm H h)
  | .loop c, hf, Q, tm, H, ⟨I, μ, h0, h1⟩ => Sd I μ h0 h1
  | .rangeFunc .., _, Q, tm, H, h => h
  | .scope _, _, Q, tm, H, h => h
  | .refuse _, _, Q, tm, H, h => h
theorem MT {f : FuncId} {fn : Func} {c : Code} {args : List IV} {Q : Aw → A2 → Prop} (hf : P.funcs[f]? = some fn) (hbd : Bl P f = true) (hb : fn.body = some c) (hN : fn.ntmps = N)
    (hn : (args.length ≤ N ∧ fn.results.toList.all (rvN N) = true ∧ JB N c = true))
    (h : H.Wf → vc P N c (PG P fn.results.toList H Q) (tm0 args) H) : Ac P f args H Q := by
 subst hN; exact Gf hbd hf hb hn.1 hn.2.1 fun hw => AF c hn.2.2 _ _ _ (h hw)
end Go.Idl
namespace Go.Idl
open Go Go.RowKit
variable {P : Program} {N : Nat} {tm : Tm} {H : A2}
def LU (x : IV) (a b : Tm → A2 → Prop) (tm : Tm) (H : A2) : Prop := Oa x (a tm H) (b tm H)
def QZ (P : Program) (N : Nat) (full : Array Oper) (l : List Oper) (Q : Exit → Tm → A2 → Prop) (d : Option Tmp) (tm : Tm) : IV → A2 → Prop := fun x H' => D2 P N full l Q (Bw tm d x) H'
def PM (Q : Exit → Tm → A2 → Prop) (tm : Tm) : List PanicEntry → A2 → Prop := fun ch H' => Q (.panic ch) tm H'
def Ze (P : Program) (N : Nat) (full : Array Oper) (o : Oper) (l : List Oper) (Q : Exit → Tm → A2 → Prop) (H : A2) : Tm → Prop := fun tm => BL P N o tm H (QZ P N full l Q o.dst tm) (PM Q tm)
def TI (P : Program) (N : Nat) (full : Array Oper) (d : Option Tmp) (l : List Oper) (Q : Exit → Tm → A2 → Prop) (H : A2) : Tm → Prop := fun tm => D2 P N full l Q (Bw tm d (.v undef)) H
def DZ (b : Bool) (d : Tmp) (tm : Tm) (run skip : Tm → Prop) : Bool → Prop := fun c => De c b (run (upd tm d (.v (.bool c)))) (skip (upd tm d (.v (.bool c))))
def Ob (K : IV → A2 → Prop) (x y : IV) (H : A2) : Bool → Prop := fun q => De q true (K x H) (K y H)
def Oc (P : Program) (args : List IV) (H : A2) (K : IV → A2 → Prop) (Qp : List PanicEntry → A2 → Prop) : FuncId → List IV → Prop := fun f cap => Ac P f (args ++ cap) H (LS K Qp)
section
variable {Q : Exit → Tm → A2 → Prop}
@[go_sem] theorem jP : vc P N .skip Q tm H = Q .normal tm H := rfl
@[go_sem] theorem gz {l : Nat} : vc P N (.label l) Q tm H = Q .normal tm H := rfl
@[go_sem] theorem jQ {l : Nat} : vc P N (.exit l) Q tm H = Q (.exit l) tm H := rfl
@[go_sem] theorem jR {l : Nat} : vc P N (.goto l) Q tm H = Q (.goto l) tm H := rfl
@[go_sem] theorem lZ : vc P N .ret Q tm H = Q .ret tm H := rfl
@[go_sem] theorem l_ {a b : Code} : vc P N (.seq a b) Q tm H = vc P N a (CC (vc P N b Q) Q) tm H := rfl
@[go_sem] theorem eH {id : Nat} {l : List Oper} : vc P N (.region id ⟨l⟩ false) Q tm H = D2 P N ⟨l⟩ l Q tm H := rfl
@[go_sem] theorem jS {id : Nat} {l : Array Oper} : vc P N (.region id l true) Q tm H = IWp P N (.region id l true) Q tm H := rfl
@[go_sem] theorem jT {c : Operand} {x y : Code} : vc P N (.cond c x y) Q tm H = LU (ev tm c) (vc P N x Q) (vc P N y Q) tm H := rfl
@[go_sem] theorem gA {id : Nat} {c : Code} : vc P N (.block id c) Q tm H = vc P N c (Dm id Q) tm H := rfl
@[go_sem] theorem jU {c : Code} : vc P N (.loop c) Q tm H = PL P N c Q tm H := rfl
@[go_sem] theorem WD {f : Operand} {ps : Array Tmp} {a b : Code} : vc P N (.rangeFunc f ps a b) Q tm H = IWp P N (.rangeFunc f ps a b) Q tm H := rfl
@[go_sem] theorem gB {c : Code} : vc P N (.scope c) Q tm H = IWp P N (.scope c) Q tm H := rfl
variable {K : Tm → A2 → Prop}
@[go_sem] theorem WE : CC K Q .normal tm H = K tm H := rfl
@[go_sem] theorem Zf {l : Nat} : CC K Q (.exit l) tm H = Q (.exit l) tm H := rfl
@[go_sem] theorem Zg {l : Nat} : CC K Q (.goto l) tm H = Q (.goto l) tm H := rfl
@[go_sem] theorem eM : CC K Q .ret tm H = Q .ret tm H := rfl
@[go_sem] theorem Yl {c : List PanicEntry} : CC K Q (.panic c) tm H = Q (.panic c) tm H := rfl
@[go_sem] theorem Wp {id : Nat} : Dm id Q .normal tm H = Q .normal tm H := rfl
@[go_sem] theorem Ym {id : Nat} : Dm id Q (.exit id) tm H = Q .normal tm H := by simp [Dm]
@[go_sem] theorem Yn {id l : Nat} : Dm id Q (.goto l) tm H = Q (.goto l) tm H := rfl
@[go_sem] theorem Zh {id : Nat} : Dm id Q .ret tm H = Q .ret tm H := rfl
@[go_sem] theorem WG {id : Nat} {c : List PanicEntry} : Dm id Q (.panic c) tm H = Q (.panic c) tm H := rfl
@[go_sem] theorem eN {full : Array Oper} : D2 P N full [] Q tm H = Q .normal tm H := rfl
@[go_sem] theorem Zi {full : Array Oper} {d : Option Tmp} {op : Op} {t : TypeId} {p : String} {af : Array Edge} {l : List Oper} :
    D2 P N full (⟨d, op, t, p, af, none⟩ :: l) Q tm H = BL P N ⟨d, op, t, p, af, none⟩ tm H (QZ P N full l Q d tm) (PM Q tm) := rfl
@[go_sem] theorem eO {full : Array Oper} {l : List Oper} {d : Option Tmp} {x : IV} : QZ P N full l Q d tm x H = D2 P N full l Q (Bw tm d x) H := rfl
@[go_sem] theorem gC {c : List PanicEntry} : PM Q tm c H = Q (.panic c) tm H := rfl
def Od (l : List Oper) (j : Nat) : Option Tmp := (l[j]?).bind (·.dst)
def vcH (d : Option Tmp) (b : Bool) (tm : Tm) (run skip : Tm → Prop) : Prop :=
  match d with
  | some d => D9 (tm d) (DZ b d tm run skip) skip tm
  | none => False
@[go_sem] theorem Yo {full : List Oper} {d : Option Tmp} {op : Op} {t : TypeId} {p : String} {af : Array Edge} {j : Nat} {b : Bool} {l : List Oper} :
    D2 P N ⟨full⟩ (⟨d, op, t, p, af, some (j, b)⟩ :: l) Q tm H = vcH (Od full j) b tm (Ze P N ⟨full⟩ ⟨d, op, t, p, af, some (j, b)⟩ l Q H) (TI P N ⟨full⟩ d l Q H) := by
 show vcG ⟨full⟩ ⟨d, op, t, p, af, some (j, b)⟩ tm (Ze P N ⟨full⟩ ⟨d, op, t, p, af, some (j, b)⟩ l Q H) (TI P N ⟨full⟩ d l Q H) = vcH ((full[j]?).bind (·.dst)) b tm _ _; unfold vcG vcH; simp only [List.getElem?_toArray]; cases (full[j]?).bind (·.dst) <;> rfl
@[go_sem] theorem gD {full : Array Oper} {o : Oper} {l : List Oper} : Ze P N full o l Q H tm = BL P N o tm H (QZ P N full l Q o.dst tm) (PM Q tm) := rfl
@[go_sem] theorem eP {full : Array Oper} {d : Option Tmp} {l : List Oper} : TI P N full d l Q H tm = D2 P N full l Q (Bw tm d (.v undef)) H := rfl
end
@[go_sem] theorem Zj {o : Oper} {l : List Oper} : Od (o :: l) 0 = o.dst := rfl
@[go_sem] theorem Zk {o : Oper} {l : List Oper} {j : Nat} : Od (o :: l) (j + 1) = Od l j := rfl
@[go_sem] theorem gE {d : Tmp} {b : Bool} {run skip : Tm → Prop} : vcH (some d) b tm run skip = D9 (tm d) (DZ b d tm run skip) skip tm := rfl
@[go_sem] theorem eR {d : Tmp} {run skip : Tm → Prop} : DZ true d tm run skip true = run (upd tm d (.v (.bool true))) := by simp [DZ, De]
@[go_sem] theorem eS {d : Tmp} {run skip : Tm → Prop} : DZ true d tm run skip false = skip (upd tm d (.v (.bool false))) := by simp [DZ, De]
@[go_sem] theorem eU {d : Tmp} {run skip : Tm → Prop} : DZ false d tm run skip true = skip (upd tm d (.v (.bool true))) := by simp [DZ, De]
@[go_sem] theorem eV {d : Tmp} {run skip : Tm → Prop} : DZ false d tm run skip false = run (upd tm d (.v (.bool false))) := by simp [DZ, De]
@[go_sem] theorem Zl {K : IV → A2 → Prop} {x y : IV} : Ob K x y H true = K x H := by simp [Ob, De]
@[go_sem] theorem Yp {K : IV → A2 → Prop} {x y : IV} : Ob K x y H false = K y H := by simp [Ob, De]
@[go_sem] theorem eW {args cap : List IV} {K : IV → A2 → Prop} {Qp : List PanicEntry → A2 → Prop} {f : FuncId} : Oc P args H K Qp f cap = Ac P f (args ++ cap) H (LS K Qp) := rfl
@[go_sem] theorem Yq {K : Bool → Prop} {sk : Tm → Prop} : D9 (.v (.bool true)) K sk tm = K true := by simp [D9]
@[go_sem] theorem WH {K : Bool → Prop} {sk : Tm → Prop} : D9 (.v (.bool false)) K sk tm = K false := by simp [D9]
@[go_sem] theorem WI {K : Bool → Prop} {sk : Tm → Prop} : D9 (.v undef) K sk tm = sk tm := rfl
theorem Et {c : Bool} {K : Bool → Prop} {sk : Tm → Prop} (h1 : c = true → K true) (h2 : c = false → K false) : D9 (.v (.bool c)) K sk tm := ⟨h1, h2⟩
@[go_sem] theorem Yr {K : Bool → Prop} : splitB (.v (.bool true)) K = K true := by simp [splitB]
@[go_sem] theorem WJ {K : Bool → Prop} : splitB (.v (.bool false)) K = K false := by simp [splitB]
@[go_sem] theorem Zm {a b : Tm → A2 → Prop} : LU (.v (.bool true)) a b tm H = a tm H := by simp [LU, Oa]
@[go_sem] theorem Ys {a b : Tm → A2 → Prop} : LU (.v (.bool false)) a b tm H = b tm H := by simp [LU, Oa]
@[go_sem] theorem Zn {s : Prop} {r : IV} {K : IV → A2 → Prop} {alt : Prop} : AJ (some (s, r, H)) K alt = (s ∧ K r H) := rfl
@[go_sem] theorem Zo {K : IV → A2 → Prop} {alt : Prop} : AJ none K alt = alt := rfl
@[go_sem] theorem Zp {f : FuncId} {cap : List IV} {A : FuncId → List IV → Prop} {alt : Prop} : Dd (some (f, cap)) A alt = A f cap := rfl
@[go_sem] theorem Zq {A : FuncId → List IV → Prop} {alt : Prop} : Dd none A alt = alt := rfl
@[go_sem] theorem Zr {s : Prop} {r : IV} : AV (some (s, r)) H = some (s, r, H) := rfl
@[go_sem] theorem Zs : AV none H = none := rfl
@[go_sem] theorem eX {K : IV → A2 → Prop} {Qp : List PanicEntry → A2 → Prop} {r : IV} : LS K Qp (.ret r) H = K r H := rfl
@[go_sem] theorem eY {K : IV → A2 → Prop} {Qp : List PanicEntry → A2 → Prop} {c : List PanicEntry} : LS K Qp (.pan c) H = Qp c H := rfl
@[go_sem] theorem eZ {d : Nat} {x : IV} : Bw tm (some d) x = upd tm d x := rfl
@[go_sem] theorem e_ {x : IV} : Bw tm none x = tm := rfl
@[go_sem] theorem jV {d i : Nat} {x : IV} : upd tm d x i = if i = d then x else tm i := rfl
@[go_sem] theorem mh {t : Tmp} : ev tm (.tmp t) = tm t := rfl
@[go_sem] theorem gF {x : Value} : ev tm (.const x) = .v x := rfl
@[go_sem] theorem jW {f : FuncId} : ev tm (.func f) = .v (.func (.func f) #[] #[]) := rfl
@[go_sem] theorem fc {g : Nat} : ev tm (.global g) = .v (.pointer (some ⟨g, 0, none⟩)) := rfl
section
variable {d : Option Tmp} {t : TypeId} {p : String} {af : Array Edge} {gd : Option (Nat × Bool)} {K : IV → A2 → Prop} {Qp : List PanicEntry → A2 → Prop}
@[go_sem] theorem fm {x : Operand} {l : List Operand} {ats : Array TypeId} : BL P N ⟨d, .call ⟨.value x, ⟨l⟩, ats⟩, t, p, af, gd⟩ tm H K Qp =
    Dd (fnP (ev tm x)) (Oc P (l.map (ev tm)) H K Qp) (AD P N ⟨d, .call ⟨.value x, ⟨l⟩, ats⟩, t, p, af, gd⟩ tm H K Qp) := rfl
@[go_sem] theorem Yt {x y : Operand} {a b : TypeId} : BL P N ⟨d, .call ⟨.builtin .append, #[x, y], #[a, b]⟩, t, p, af, gd⟩ tm H K Qp =
    AJ (apI P H a b (ev tm x) (ev tm y)) K (AD P N ⟨d, .call ⟨.builtin .append, #[x, y], #[a, b]⟩, t, p, af, gd⟩ tm H K Qp) := rfl
def WK (a b : Option (Prop × IV)) : Option (Prop × IV) := match a with | some r => some r | none => b
@[go_sem] theorem fo {p : Prop × IV} {b : Option (Prop × IV)} : WK (some p) b = some p := rfl
@[go_sem] theorem fq {b : Option (Prop × IV)} : WK none b = b := rfl
@[go_sem] theorem gG {x : Operand} {a : TypeId} : BL P N ⟨d, .call ⟨.builtin .len, #[x], #[a]⟩, t, p, af, gd⟩ tm H K Qp =
    AJ (AV (WK (EU (P.underlying a) (ev tm x)) (lnX P H a (ev tm x))) H) K (AD P N ⟨d, .call ⟨.builtin .len, #[x], #[a]⟩, t, p, af, gd⟩ tm H K Qp) := by
 show AJ (cmX P H .len [ev tm x] [] [a]) K _ = _; congr 1; unfold cmX WK; simp only; cases EU (P.underlying a) (ev tm x) <;> rfl
@[go_sem] theorem Yu {x y : Operand} {a b : TypeId} : BL P N ⟨d, .call ⟨.builtin .delete, #[x, y], #[a, b]⟩, t, p, af, gd⟩ tm H K Qp =
    AJ (dlX P H a (ev tm x) (ev tm y)) K (AD P N ⟨d, .call ⟨.builtin .delete, #[x, y], #[a, b]⟩, t, p, af, gd⟩ tm H K Qp) := rfl
@[go_sem] theorem Yv {x y : Operand} {a : TypeId} {ok : Bool} : BL P N ⟨d, .lookup a x y ok, t, p, af, gd⟩ tm H K Qp =
    AJ (AV (lkX P H a (ev tm x) (ev tm y) ok) H) K (AD P N ⟨d, .lookup a x y ok, t, p, af, gd⟩ tm H K Qp) := rfl
@[go_sem] theorem TJ {x y z : Operand} {a : TypeId} : BL P N ⟨d, .mapUpdate a x y z, t, p, af, gd⟩ tm H K Qp =
    AJ (muX P H a (ev tm x) (ev tm y) (ev tm z)) K (AD P N ⟨d, .mapUpdate a x y z, t, p, af, gd⟩ tm H K Qp) := rfl
@[go_sem] theorem Yw {x y z : Operand} {a : TypeId} : BL P N ⟨d, .insert a x y z, t, p, af, gd⟩ tm H K Qp =
    AJ (muX P H a (ev tm x) (ev tm y) (ev tm z)) K (AD P N ⟨d, .insert a x y z, t, p, af, gd⟩ tm H K Qp) := rfl
@[go_sem] theorem WL {a : TypeId} : BL P N ⟨d, .makeMap a none, t, p, af, gd⟩ tm H K Qp =
    AJ (some (True, .mp H.next, H.new (.map []))) K (AD P N ⟨d, .makeMap a none, t, p, af, gd⟩ tm H K Qp) := rfl
@[go_sem] theorem fu {x : Operand} : BL P N ⟨d, .move x, t, p, af, gd⟩ tm H K Qp = K (ev tm x) H := true_and _
@[go_sem] theorem Yx {x : Operand} : BL P N ⟨d, .assign x, t, p, af, gd⟩ tm H K Qp = K (ev tm x) H := true_and _
@[go_sem] theorem Zt {a : TypeId} : BL P N ⟨d, .alloc a, t, p, af, gd⟩ tm H K Qp = AJ (alX P H a) K (AD P N ⟨d, .alloc a, t, p, af, gd⟩ tm H K Qp) := rfl
@[go_sem] theorem gH {a : TypeId} {x : Operand} : BL P N ⟨d, .box a x, t, p, af, gd⟩ tm H K Qp = AJ (bxX H (ev tm x)) K (AD P N ⟨d, .box a x, t, p, af, gd⟩ tm H K Qp) := rfl
@[go_sem] theorem fy {a : TypeId} {x : Operand} : BL P N ⟨d, .load a x, t, p, af, gd⟩ tm H K Qp = AJ (AV (ldX P H a (ev tm x)) H) K (AD P N ⟨d, .load a x, t, p, af, gd⟩ tm H K Qp) := rfl
@[go_sem] theorem Zu {a : TypeId} {x y : Operand} : BL P N ⟨d, .store a x y, t, p, af, gd⟩ tm H K Qp = AJ (stX P H a (ev tm x) (ev tm y)) K (AD P N ⟨d, .store a x y, t, p, af, gd⟩ tm H K Qp) := rfl
@[go_sem] theorem TK {a : TypeId} {x y : Operand} : BL P N ⟨d, .indexAddr a x y, t, p, af, gd⟩ tm H K Qp = AJ (AV (ixX P H a (ev tm x) (ev tm y)) H) K (AD P N ⟨d, .indexAddr a x y, t, p, af, gd⟩ tm H K Qp) := rfl
@[go_sem] theorem fA {c a b : Operand} : BL P N ⟨d, .pick c a b, t, p, af, gd⟩ tm H K Qp = splitB (ev tm c) (Ob K (ev tm a) (ev tm b) H) := rfl
@[go_sem] theorem Zv {a : TypeId} {l : List (Nat × Operand)} : BL P N ⟨d, .build a ⟨l⟩, t, p, af, gd⟩ tm H K Qp = AJ (AV (bdP P a (l.map fun q => (q.1, ev tm q.2))) H) K (AD P N ⟨d, .build a ⟨l⟩, t, p, af, gd⟩ tm H K Qp) := rfl
@[go_sem] theorem gI {n sz : Nat} {rs : List IV} : bzI n (some (sz, rs)) = some (True, .sl sz (chunks sz n rs)) := rfl
@[go_sem] theorem Tp {a : TypeId} {n : Nat} {l : List (Nat × Operand)} : BL P N ⟨d, .buildSlice a (n + 1) ⟨l⟩, t, p, af, gd⟩ tm H K Qp = AJ (AV (bzI (n + 1) (bsI P a (n + 1) (l.map fun q => (q.1, ev tm q.2)))) H) K (AD P N ⟨d, .buildSlice a (n + 1) ⟨l⟩, t, p, af, gd⟩ tm H K Qp) := rfl
@[go_sem] theorem Tq {a : TypeId} {l : List (Nat × Operand)} : BL P N ⟨d, .buildSlice a 0 ⟨l⟩, t, p, af, gd⟩ tm H K Qp = AD P N ⟨d, .buildSlice a 0 ⟨l⟩, t, p, af, gd⟩ tm H K Qp := rfl
@[go_sem] theorem Wq {x : Operand} : BL P N ⟨d, .nilCheck x, t, p, af, gd⟩ tm H K Qp = AJ (AV (ncP (ev tm x)) H) K (AD P N ⟨d, .nilCheck x, t, p, af, gd⟩ tm H K Qp) := rfl
@[go_sem] theorem Zw {op : BinOp} {a b : TypeId} {x y : Operand} : BL P N ⟨d, .binOp op a x y b, t, p, af, gd⟩ tm H K Qp = AJ (AV (PA P op a tm x y) H) K (AD P N ⟨d, .binOp op a x y b, t, p, af, gd⟩ tm H K Qp) := rfl
@[go_sem] theorem fB {op : UnOp} {a : TypeId} {x : Operand} : BL P N ⟨d, .unOp op a x, t, p, af, gd⟩ tm H K Qp = AJ (AV (unP op (ev tm x)) H) K (AD P N ⟨d, .unOp op a x, t, p, af, gd⟩ tm H K Qp) := rfl
@[go_sem] theorem WM {a b : TypeId} {x : Operand} : BL P N ⟨d, .convert a b x, t, p, af, gd⟩ tm H K Qp = AJ (AV (cvP P a b (ev tm x)) H) K (AD P N ⟨d, .convert a b x, t, p, af, gd⟩ tm H K Qp) := rfl
@[go_sem] theorem PN {a : TypeId} {x : Operand} : BL P N ⟨d, .makeInterface a x, t, p, af, gd⟩ tm H K Qp = AJ (AV (mkP P a (ev tm x)) H) K (AD P N ⟨d, .makeInterface a x, t, p, af, gd⟩ tm H K Qp) := rfl
@[go_sem] theorem Wr {f : Fn} {x y : List Operand} : BL P N ⟨d, .makeFunc f ⟨x⟩ ⟨y⟩, t, p, af, gd⟩ tm H K Qp = K (.fn f (x.map (ev tm)) (y.map (ev tm))) H := true_and _
@[go_sem] theorem Zx {a : TypeId} {x : Operand} {lo hi mx : Option Operand} : BL P N ⟨d, .slice a x lo hi mx, t, p, af, gd⟩ tm H K Qp =
    AJ (AV (slP P (P.underlying a) (ev tm x) (lo.map (ev tm)) (hi.map (ev tm)) (mx.map (ev tm))) H) K (AD P N ⟨d, .slice a x lo hi mx, t, p, af, gd⟩ tm H K Qp) := rfl
@[go_sem] theorem TL {a : TypeId} {x : Operand} {f : Nat} : BL P N ⟨d, .fieldAddr a x f, t, p, af, gd⟩ tm H K Qp = AJ (AV (fdP P (P.underlying a) (ev tm x) f) H) K (AD P N ⟨d, .fieldAddr a x f, t, p, af, gd⟩ tm H K Qp) := rfl
@[go_sem] theorem Zy {a : TypeId} {x : Operand} {f : Nat} : BL P N ⟨d, .field a x f, t, p, af, gd⟩ tm H K Qp = AJ (AV (fvP P (P.underlying a) (ev tm x) f) H) K (AD P N ⟨d, .field a x f, t, p, af, gd⟩ tm H K Qp) := rfl
@[go_sem] theorem Zz {a : TypeId} {x y : Operand} : BL P N ⟨d, .index a x y, t, p, af, gd⟩ tm H K Qp = AJ (AV (ivP P (P.underlying a) (ev tm x) (ev tm y)) H) K (AD P N ⟨d, .index a x y, t, p, af, gd⟩ tm H K Qp) := rfl
@[go_sem] theorem WN {x : Operand} {n : Nat} : BL P N ⟨d, .extract x n, t, p, af, gd⟩ tm H K Qp = AJ (AV (exP (ev tm x) n) H) K (AD P N ⟨d, .extract x n, t, p, af, gd⟩ tm H K Qp) := rfl
end
@[go_sem] theorem jX {i : Nat} : tm0 [] i = .v undef := by simp [tm0]
@[go_sem] theorem gJ {x : IV} {l : List IV} : tm0 (x :: l) 0 = x := rfl
@[go_sem] theorem gK {x : IV} {l : List IV} {i : Nat} : tm0 (x :: l) (i + 1) = tm0 l i := by simp [tm0]
section
@[go_sem] theorem fC {cs : List IV} : AO (.ag cs) = some cs := rfl
@[go_sem] theorem fD {sz : Nat} {es : List (List IV)} : AO (.sl sz es) = some [.sl sz es] := rfl
@[go_sem] theorem fE {cs : List IV} : AO (.cp cs) = some [.cp cs] := rfl
@[go_sem] theorem fF {f : Fn} {a b : List IV} : AO (.fn f a b) = some [.fn f a b] := rfl
@[go_sem] theorem ZA {t : TypeId} {x : IV} : AO (.ifc t x) = some [.ifc t x] := rfl
@[go_sem] theorem gL {k o : Nat} : AO (.p k o) = some [.p k o] := rfl
@[go_sem] theorem fG {k : Nat} : AO (.mp k) = some [.mp k] := rfl
@[go_sem] theorem fH {k n : Nat} : AO (.os k n) = some [.os k n] := rfl
@[go_sem] theorem fI {k n o : Nat} : AO (.pr k n o) = some [.pr k n o] := rfl
@[go_sem] theorem fJ {k n o : Nat} : AO (.bs k o n) = some [.bs k o n] := rfl
@[go_sem] theorem ZB {k : IntKind} {n : Int} : AO (.v (.int k n)) = some [.v (.int k n)] := rfl
@[go_sem] theorem Yy {b : Bool} : AO (.v (.bool b)) = some [.v (.bool b)] := rfl
@[go_sem] theorem ZC {s : ByteArray} : AO (.v (.string s)) = some [.v (.string s)] := rfl
@[go_sem] theorem WO {a : Option Addr} {n c : Nat} : AO (.v (.slice a n c)) = some [.v (.slice a n c)] := rfl
@[go_sem] theorem ZD {a : Option Addr} : AO (.v (.pointer a)) = some [.v (.pointer a)] := rfl
@[go_sem] theorem ZE {a : Option Nat} : AO (.v (.map a)) = some [.v (.map a)] := rfl
@[go_sem] theorem Yz {f : Fn} {a b : Array Value} : AO (.v (.func f a b)) = some [.v (.func f a b)] := rfl
@[go_sem] theorem TM  : AO (.v .nilFunc) = some [.v .nilFunc] := rfl
@[go_sem] theorem WQ {t : TypeId} {x : Value} : AO (.v (.iface t x)) = some [.v (.iface t x)] := rfl
@[go_sem] theorem Tr  : AO (.v .nilIface) = some [.v .nilIface] := rfl
@[go_sem] theorem ZF {xs : Array Value} : AO (.v (.agg xs)) = if xs.toList.all (·.oneCell') = true then some (xs.toList.map .v) else none := rfl
end
attribute [go_sem] tyB tyR
attribute [go_sem] Value.oneCell' bsI E5 rep Value.cells chunks
attribute [go_sem] PA ldX ldN ldH ldP stX ixX ixP alX bxX fdP fvP ivP EU RX shI Ww Wx unP cvP ncP exP mkP slP G6 NZ ML apI PD elI DX CH fnP Ip
section
variable {P : Program} {op : BinOp} {t : TypeId}
@[go_sem] theorem mj {a b : Value} : Iq P op t (.v a) (.v b) = (match RX P op t a b with | some (s, r) => some (s, .v r) | none => none) := rfl
@[go_sem] theorem mo {k off : Nat} : Iq P op t (.p k off) (.v (.pointer none)) = (match P.underlying t with
    | some (.pointer _) => match op with | .eql => some (True, .v (.bool false)) | .neq => some (True, .v (.bool true)) | _ => none
    | _ => none) := rfl
@[go_sem] theorem jY {cs : List IV} : Iq P op t (.cp cs) (.v (.pointer none)) = (match P.underlying t with
    | some (.pointer _) => match op with | .eql => some (True, .v (.bool false)) | .neq => some (True, .v (.bool true)) | _ => none
    | _ => none) := rfl
@[go_sem] theorem jZ {k : Nat} : Iq P op t (.mp k) (.v (.map none)) = (match P.underlying t with
    | some (.map _ _) => match op with | .eql => some (True, .v (.bool false)) | .neq => some (True, .v (.bool true)) | _ => none
    | _ => none) := rfl
@[go_sem] theorem j_ {f : Fn} {a b : List IV} : Iq P op t (.fn f a b) (.v .nilFunc) = (match P.underlying t with
    | some (.func _ _ _) => match op with | .eql => some (True, .v (.bool false)) | .neq => some (True, .v (.bool true)) | _ => none
    | _ => none) := rfl
@[go_sem] theorem k9 {sz : Nat} {es : List (List IV)} {y : IV} : Iq P op t (.sl sz es) y = none := by cases y <;> rfl
@[go_sem] theorem kf {a b c d : List UInt8} : Iq P op t (.ag [.v (str a), .v (str b)]) (.ag [.v (str c), .v (str d)]) = (match P.underlying t with
    | some (.struct fs) =>
      match fs.toList with
      | [f1, f2] => match op with
        | .eql => some (P.underlying f1.type = some .string ∧ P.underlying f2.type = some .string ∧ f1.offset = 0 ∧ ¬ f1.name = "_" ∧ f2.offset = 1 ∧ ¬ f2.name = "_" ∧ P.stoodInHeld t = false ∧ P.eqGuardType P.depth t = false, .v (.bool (decide (a = c ∧ b = d))))
        | .neq => some (P.underlying f1.type = some .string ∧ P.underlying f2.type = some .string ∧ f1.offset = 0 ∧ ¬ f1.name = "_" ∧ f2.offset = 1 ∧ ¬ f2.name = "_" ∧ P.stoodInHeld t = false ∧ P.eqGuardType P.depth t = false, .v (.bool (!decide (a = c ∧ b = d))))
        | _ => none
      | _ => none
    | _ => none) := by
  simp only [Iq, agE, str, Ca]
  cases P.underlying t with
  | none => rfl
  | some d =>
    cases d <;> try rfl
    rename_i fs
    simp only
    rcases fs.toList with _ | ⟨f1, _ | ⟨f2, _ | ⟨f3, l⟩⟩⟩ <;> first | rfl | (cases op <;> rfl)
end
attribute [go_sem] RV
@[go_sem] theorem fK : AR True = True := by simp [AR]
theorem BM {c : Bool} {a b : Tm → A2 → Prop} (h1 : c = true → a tm H) (h2 : c = false → b tm H) : LU (.v (.bool c)) a b tm H := ⟨h1, h2⟩
theorem FM {c : Bool} {K : Bool → Prop} (h1 : c = true → K true) (h2 : c = false → K false) : splitB (.v (.bool c)) K := ⟨h1, h2⟩
theorem Bk {c : Code} {Q : Exit → Tm → A2 → Prop} (I : Tm → A2 → Prop) (μ : Tm → A2 → Nat) (h0 : UpI I tm H)
    (h : ∀ I' μ', I' = I → μ' = μ → ∀ tm H, I tm H → IWp P N c (CC (Up I' μ' (μ tm H)) Q) tm H) : PL P N c Q tm H := ⟨I, μ, h0, h I μ rfl rfl⟩
theorem Up.of {I I' : Tm → A2 → Prop} {μ μ' : Tm → A2 → Nat} {m : Nat} (hI : I' = I) (hμ : μ' = μ) (h : I tm H) (hm : μ tm H < m) : Up I' μ' m tm H := by
 subst hI; subst hμ; exact .same h hm
def PO (x : Option (Prop × List IV)) (H0 : A2) (Q : Aw → A2 → Prop) (H : A2) : Prop :=
  match x with
  | some (s, is) => s ∧ Km (O8 is) H0 Q H
  | none => False
section
variable {H0 : A2} {rs : List ResultVar} {Q : Aw → A2 → Prop}
theorem JK : MP P rs H0 Q tm H = PO (G7 P H tm rs) H0 Q H := by
 unfold PO MP; cases G7 P H tm rs with
 | none => simp
 | some x =>
  obtain ⟨s, is⟩ := x; exact propext ⟨fun ⟨s', is', h1, h2, h3⟩ => by cases h1; exact ⟨h2, h3⟩, fun ⟨h2, h3⟩ => ⟨s, is, rfl, h2, h3⟩⟩
@[go_sem] theorem gM : PG P rs H0 Q .ret tm H = PO (G7 P H tm rs) H0 Q H := JK
@[go_sem] theorem YA : PG P rs H0 Q .normal tm H = PO (G7 P H tm rs) H0 Q H := JK
@[go_sem] theorem fM {s : Prop} {is : List IV} : PO (some (s, is)) H0 Q H = (s ∧ Km (O8 is) H0 Q H) := rfl
theorem AN {r : IV} (he : Ext H0 H) (hn : NB H0.next r) (h : Q (.ret r) H0) : Km r H0 Q H :=
  .inl ⟨r, H0, he.Cy, .wk r r (fun _ _ _ h => h) hn, h⟩
theorem D3 {r : IV} (h : Q (.ret r) H) : Km r H0 Q H := .inr ⟨r, H, .inl (.refl r H), h⟩
theorem BA {r r' : IV} {J : A2} (he : BI H0 H J) (hf : Fz H J r r') (h : Q (.ret r') J) : Km r H0 Q H := .inl ⟨r', J, he, hf, h⟩
end
attribute [go_sem] G7 rvI O8
@[go_sem] theorem fN {α : Type} {a : α} {l : List α} : (a :: l)[0]? = some a := rfl
@[go_sem] theorem fO {α : Type} {a : α} {l : List α} {i : Nat} : (a :: l)[i + 1]? = l[i]? := rfl
def intOf : IV → Int
  | .v (.int _ n) => n
  | _ => 0
@[go_sem] theorem intOf_int {k : IntKind} {n : Int} : intOf (.v (.int k n)) = n := rfl
end Go.Idl
