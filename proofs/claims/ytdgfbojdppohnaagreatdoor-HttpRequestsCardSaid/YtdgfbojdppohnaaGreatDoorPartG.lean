/- The bytes of any request, or that there are none; they are that request again: the saying of the case law 12 Part 7. Conditions: none. -/
import Derived.Test.YtdgfbojdppohnaaGreatDoorPartF
import Derived.Lib.IndexMore
import Derived.Ground.NamesProg
import Derived.Shelf.LaysM
import Derived.Shelf.Strings.Cut
import Derived.Test.YtdgfbojdppohnaaGreatDoorProg
import Derived.SizedLaws
import Derived.Handed
import Derived.ChangeSame
import Derived.Test.YtdgfbojdppohnaaGreatDoorRows
import Derived.Test.YtdgfbojdppohnaaGreatDoorTie
import Derived.Test.YtdgfbojdppohnaaGreatDoorCards
import Derived.LaidMore
import Derived.Carry
import Derived.Stop.Joined
import Derived.SevenTiedAt
import Derived.Stop.LaidErr
import Derived.Lib.LaidTab
import Derived.Lay
import Derived.MakeChecks
set_option linter.unusedSimpArgs false
set_option linter.unusedVariables false
namespace Go.Idl
open Go
set_option maxRecDepth 100000
theorem My (c : UInt8) (k : Nat) (s : Str) : Lib.splitK [c] 0 (k + 1) s = match C2 s c with | some p => p.1 :: Lib.splitK [c] 0 k p.2 | none => [s] := by
 rw [Lib.splitK, index_one]; cases h : C2 s c with
 | none => simp
 | some p =>
  obtain ⟨h1, _⟩ := C5.1 (show C2 s c = some (p.1, p.2) from h); simp only; rw [if_neg (by simp)]; simp [h1]
theorem NM (c : UInt8) (s : Str) : Lib.count s [c] = match C2 s c with | some p => Lib.count p.2 [c] + 1 | none => 0 := by
 cases h : C2 s c with
 | none =>
  have : Lib.index s [c] = -1 := by rw [index_one, h]
  exact Lib.count_miss this
 | some p =>
  have hi : Lib.index s [c] = (p.1.length : Int) := by rw [index_one, h]
  obtain ⟨h1, _⟩ := C5.1 (show C2 s c = some (p.1, p.2) from h); have := Lib.count_hit (s := s) (sub := [c]) (by simp) hi; simp only; rw [this, h1]; simp [Nat.add_comm]
theorem BY (c : UInt8) (s : Str) : Lib.split s [c] = match C2 s c with | some p => p.1 :: Lib.split p.2 [c] | none => [s] := by
 unfold Lib.split; rw [NM]; cases h : C2 s c with
 | none => rfl
 | some p =>
  simp only; rw [My, h]
theorem PG (c : UInt8) (s : Str) : Lib.split s [c] ≠ [] := by
 rw [BY]; cases C2 s c <;> simp
theorem U1 (s : Str) (h : s.length ≤ 1000000) : F49 s = some (match EE s with | some x => .ok ⟨x.1, x.2, [], []⟩ | none => .error ()) := by
 unfold F49 F50; rw [Ab (by omega), Ab (by simp)]; unfold EE; cases h1 : C2 s 32 with
 | none =>
  have hs : Lib.split s [32] = [s] := by rw [BY, h1]
  rw [hs, Option.bind_some]; simp
 | some p =>
  have l1 := FX (a := p.1) (b := p.2) h1; simp only [Option.bind_some]; cases h2 : C2 p.2 32 with
  | none =>
   have hs : Lib.split s [32] = [p.1, p.2] := by rw [BY, h1]; simp only; rw [BY, h2]
   rw [hs]; simp
  | some q =>
   have l2 := FX (a := q.1) (b := q.2) h2; simp only [Option.bind_some]; cases h3 : C2 q.2 32 with
   | some t =>
    have hv : ¬ q.2 = Di := by
     intro e; rw [e] at h3; have : C2 Di 32 = none := by decide
     rw [this] at h3; cases h3
    have hs : Lib.split s [32] = p.1 :: q.1 :: t.1 :: Lib.split t.2 [32] := by
     rw [BY, h1]; simp only; rw [BY, h2]; simp only; rw [BY, h3]
    have hne := PG 32 t.2; have hlen : 0 < (Lib.split t.2 [32]).length := List.length_pos_iff.2 hne; rw [hs, if_neg (by simp only [List.length_cons]; omega), if_neg (fun e => hv e.1)]
   | none =>
    have hs : Lib.split s [32] = [p.1, q.1, q.2] := by
     rw [BY, h1]; simp only; rw [BY, h2]; simp only; rw [BY, h3]
    rw [hs]; simp only [List.length_cons, List.length_nil, List.getD_cons_zero, List.getD_cons_succ]; rw [if_pos (by omega), Ab (by omega), Pg _ (by omega), Option.bind_some]; by_cases m1 : BJ p.1 = true
    case neg => rw [if_neg m1, if_neg (fun e => m1 e.2.1)]
    rw [if_pos m1, Ab (by omega), Ph _ (by omega), Option.bind_some]; by_cases m2 : CN q.1 = true
    case neg => rw [if_neg m2, if_neg (fun e => m2 e.2.2)]
    rw [if_pos m2, Ab (by omega)]; by_cases m3 : q.2 = Di
    ·rw [if_pos (show q.2 = [72, 84, 84, 80, 47, 49, 46, 49] from m3), if_pos ⟨m3, m1, m2⟩]
    ·rw [if_neg (show ¬ q.2 = [72, 84, 84, 80, 47, 49, 46, 49] from m3), if_neg (fun e => m3 e.1)]
theorem Du {ε α β : Type} {x : Option (Except ε α)} {a : α} {p : ε → Option β} {k : α → Option β} (h : x = some (.ok a)) : (x.bind fun y => orP y p k) = k a := by subst h; rfl
theorem Ho {ε α β : Type} {x : Option (Except ε α)} {e : ε} {p : ε → Option β} {k : α → Option β} (h : x = some (.error e)) : (x.bind fun y => orP y p k) = p e := by subst h; rfl
theorem JG {α β : Type} {x : Option α} {a : α} {k : α → Option β} (h : x = some a) : x.bind k = k a := by subst h; rfl
theorem U2 (b : Str) (h : b.length ≤ 1000000) : F36 b = some (match Et E7 b with | some x => ((⟨(x.1 : Int), x.2.1.map toS, x.2.2⟩ : S25), 0) | none => ((⟨0, [], []⟩ : S25), 220)) := by
 have e64 := FD b (by omega); unfold F36 Et; cases h1 : B5 b with
 | none =>
  rw [h1] at e64; rw [Ho e64, Option.bind_none]
 | some p =>
  rw [h1] at e64; have l1 := Bn (a := p.1) (b := p.2) h1; rw [Du e64, Option.bind_some]; have e30 := U0 p.1 (by omega); cases h2 : E7 p.1 with
  | none =>
   rw [h2] at e30; rw [Ho e30, Option.bind_none]
  | some c =>
   rw [h2] at e30; rw [Du e30, Option.bind_some]; have e65 := Px p.2 (by omega); cases h3 : CD [] p.2 with
   | none =>
    rw [h3] at e65; rw [Ho e65, Option.bind_none]
   | some q =>
    rw [h3] at e65; obtain ⟨n1, n2, n3, n4⟩ := IQ (l := q.1) (r := q.2) h3; rw [Du e65, Option.bind_some]; have e66 := PD q.2 q.1 (by omega) n1 (fun x hx => by have := (n4 x hx).2.2.2; omega); cases h4 : DK q.1 q.2 with
    | none =>
     rw [h4, IN] at e66; rw [Ho e66, Option.bind_none]
    | some r =>
     rw [h4, IN] at e66; have hbl := IS (b := r.1) (r := r.2) h4 1000000 (by omega); have hol : (Dg q.1).length ≤ q.1.length := List.length_filter_le _ _; have hsm : FB ((BQ (Dg q.1)).map toS) := by
      refine ⟨by rw [List.length_map, JF]; omega, fun x hx => ?_⟩; obtain ⟨y, hy, rfl⟩ := List.mem_map.1 hx; have hy := (n4 y (List.mem_filter.1 ((EO _ _).1 hy)).1).2.2.2; simp only [toS]; omega
     rw [Du e66, Option.bind_some]; have e67 := PE (Dg q.1) (by omega) (IP n1); have e27 := Mw ((BQ (Dg q.1)).map toS) r.1 hsm; rw [MX] at e27; by_cases h5 : r.2 = []
     ·have h5' : ((rd r.2).Bb.fb.length : Int) = 0 := by rw [h5]; rfl
      rw [if_pos h5', JG e67, JG e27]; by_cases h6 : CP (BQ (Dg q.1)) r.1 = true
      ·rw [if_pos h6, if_pos ⟨h5, h6⟩, JG e67, F37, Option.bind_some]
      ·rw [if_neg h6, if_neg (fun e => h6 e.2)]
     ·have : ¬ ((rd r.2).Bb.fb.length : Int) = 0 := by
       intro e; have e : (r.2.length : Int) = 0 := e; exact h5 (List.length_eq_zero_iff.1 (by omega))
      rw [if_neg this, if_neg (fun e => h5 e.1)]
theorem U3 (b : Str) (h : b.length ≤ 1000000) : F51 b = some (match Et EE b with | some x => ((⟨x.1.1, x.1.2, x.2.1.map toS, x.2.2⟩ : S42), 0) | none => ((⟨[], [], [], []⟩ : S42), 220)) := by
 have e64 := FD b (by omega); unfold F51 Et; cases h1 : B5 b with
 | none =>
  rw [h1] at e64; rw [Ho e64, Option.bind_none]
 | some p =>
  rw [h1] at e64; have l1 := Bn (a := p.1) (b := p.2) h1; rw [Du e64, Option.bind_some]; have e30 := U1 p.1 (by omega); cases h2 : EE p.1 with
  | none =>
   rw [h2] at e30; rw [Ho e30, Option.bind_none]
  | some c =>
   rw [h2] at e30; rw [Du e30, Option.bind_some]; have e65 := Px p.2 (by omega); cases h3 : CD [] p.2 with
   | none =>
    rw [h3] at e65; rw [Ho e65, Option.bind_none]
   | some q =>
    rw [h3] at e65; obtain ⟨n1, n2, n3, n4⟩ := IQ (l := q.1) (r := q.2) h3; rw [Du e65, Option.bind_some]; have e66 := PD q.2 q.1 (by omega) n1 (fun x hx => by have := (n4 x hx).2.2.2; omega); cases h4 : DK q.1 q.2 with
    | none =>
     rw [h4, IN] at e66; rw [Ho e66, Option.bind_none]
    | some r =>
     rw [h4, IN] at e66; have hbl := IS (b := r.1) (r := r.2) h4 1000000 (by omega); have hol : (Dg q.1).length ≤ q.1.length := List.length_filter_le _ _; have hsm : FB ((BQ (Dg q.1)).map toS) := by
      refine ⟨by rw [List.length_map, JF]; omega, fun x hx => ?_⟩; obtain ⟨y, hy, rfl⟩ := List.mem_map.1 hx; have hy := (n4 y (List.mem_filter.1 ((EO _ _).1 hy)).1).2.2.2; simp only [toS]; omega
     rw [Du e66, Option.bind_some]; have e67 := PE (Dg q.1) (by omega) (IP n1); have e27 := Mw ((BQ (Dg q.1)).map toS) r.1 hsm; rw [MX] at e27; by_cases h5 : r.2 = []
     ·have h5' : ((rd r.2).Bb.fb.length : Int) = 0 := by rw [h5]; rfl
      rw [if_pos h5', JG e67, JG e27]; by_cases h6 : CP (BQ (Dg q.1)) r.1 = true
      ·rw [if_pos h6, if_pos ⟨h5, h6⟩, JG e67, F52, Option.bind_some]
      ·rw [if_neg h6, if_neg (fun e => h6 e.2)]
     ·have : ¬ ((rd r.2).Bb.fb.length : Int) = 0 := by
       intro e; have e : (r.2.length : Int) = 0 := e; exact h5 (List.length_eq_zero_iff.1 (by omega))
      rw [if_neg this, if_neg (fun e => h5 e.1)]
noncomputable def Mz (b : Str) : S25 × Int := match Et E7 b with | some x => (⟨(x.1 : Int), x.2.1.map toS, x.2.2⟩, 0) | none => (⟨0, [], []⟩, 220)
noncomputable def Lp (b : Str) : S42 × Int := match Et EE b with | some x => (⟨x.1.1, x.1.2, x.2.1.map toS, x.2.2⟩, 0) | none => (⟨[], [], [], []⟩, 220)
theorem U4 (b : Str) (h : b.length ≤ 1000000) : F11 b = some (.ok (Mz b)) := by
 unfold F11; rw [U2 b h, Option.bind_some]; rfl
theorem U5 (b : Str) (h : b.length ≤ 1000000) : F20 b = some (.ok (Lp b)) := by
 unfold F20; rw [U3 b h, Option.bind_some]; rfl
def IT : Str := [72, 84, 84, 80, 47, 49, 46, 49, 32, 50, 48, 52, 32, 78, 111, 13, 10, 13, 10]
theorem Lq : Et E7 IT = some (204, [], []) := by
 have hf : E7 ([72, 84, 84, 80, 47, 49, 46, 49, 32, 50, 48, 52, 32, 78, 111] : Str) = some 204 := by
  unfold E7; rw [if_pos (by decide)]; have : Ih ((([72, 84, 84, 80, 47, 49, 46, 49, 32, 50, 48, 52, 32, 78, 111] : Str).drop 9).take 3) = some 204 := by
   have h := Eu (n := 204) (by omega); rw [XX (c := 204) (by omega)] at h; exact h
  rw [this, Option.bind_some, if_pos (by decide)]
 have h := Jy (first := E7) (f := [72, 84, 84, 80, 47, 49, 46, 49, 32, 50, 48, 52, 32, 78, 111]) (x := 204) (by decide) hf [] [] (by simp) (by simp); have e : ([72, 84, 84, 80, 47, 49, 46, 49, 32, 50, 48, 52, 32, 78, 111] : Str) ++ 13 :: 10 :: (([] : List (Str × Hd)).flatMap (fun y => y.1 ++ [13, 10]) ++ 13 :: 10 :: []) = IT := rfl; rw [e] at h; rw [h]; have hb : DK (([] : List (Str × Hd)).map (·.2)) [] = some ([], []) := by
  unfold DK; rfl
 rw [hb, Option.bind_some, if_pos ⟨rfl, by decide⟩]; rfl
theorem Lr : F9 = some (.ok true) := by
 have hq := Pt ⟨[80, 85, 84], [47, 97], [], [120]⟩ (by simp) (by simp) ⟨by simp, by simp⟩ (by simp) (by
   have : (BK [80, 85, 84] [47, 97] [] [120]).length ≤ 1000000000 := by
     unfold BK Cw AI F0
     have := EF (n := 1) (by omega)
     simp [Di, Ct]
     omega
   exact this)
 have hh : (BJ [80, 85, 84] && CN [47, 97] && CP (([] : List S55).map toH) [120]) = true := by decide
 rw [if_pos hh] at hq; have hr : BK [80, 85, 84] [47, 97] (([] : List S55).map toH) [120] = [80, 85, 84, 32, 47, 97, 32, 72, 84, 84, 80, 47, 49, 46, 49, 13, 10, 99, 111, 110, 116, 101, 110, 116, 45, 108, 101, 110, 103, 116, 104, 58, 32, 49, 13, 10, 13, 10, 120] := by
  have : Lib.decDigits 1 = [49] := by rw [Lib.decDigits, dif_pos (by omega)]; rfl
  simp [BK, Cw, AI, F0, this, Di, Ct]
 have h2 := U4 IT (by simp [IT]); have h3 : Mz IT = (⟨204, [], []⟩, 0) := by unfold Mz; rw [Lq]; rfl
 rw [h3] at h2; unfold F9; rw [hq, Option.bind_some]; rw [show F11 ([72, 84, 84, 80, 47, 49, 46, 49, 32, 50, 48, 52, 32, 78, 111, 13, 10, 13, 10] : List UInt8) = _ from h2, Option.bind_some]; simp only [orP]; rw [if_pos trivial, if_pos hr, if_pos trivial]; rfl
end Go.Idl
namespace Go.Idl
open Go
set_option maxRecDepth 100000
theorem Dv (a : Str) (l : List Str) : AI (a :: l) = a ++ 13 :: 10 :: AI l := by simp [AI]
theorem JH : ∀ (l : List Hd), (∀ x ∈ l, x.1.length ≤ 300 ∧ x.2.length ≤ 300) → (AI (l.map Bc)).length ≤ l.length * 604
  | [], _ => by simp [AI]
  | x :: l, h => by
    have ih := JH l fun y hy => h y (List.mem_cons_of_mem _ hy)
    have hx := h x (List.mem_cons_self ..)
    rw [List.map_cons, Dv]
    simp only [List.length_append, List.length_cons, Bc]
    omega
theorem PI {n : Nat} (h : n ≤ 1000000000) : (F0 n).length ≤ 220 := by
 have := EF (n := n) h; simp [F0, Ct]; omega
theorem MA {f : Str} {l : List Hd} {last : Str} (h : ∀ x ∈ l, x.1.length ≤ 300 ∧ x.2.length ≤ 300) : (Cw f l last).length ≤ f.length + l.length * 604 + last.length + 6 := by
 have := JH l h; unfold Cw; rw [Dv, Ce, Dv, Dv]; simp only [List.length_append, List.length_cons, List.length_nil, AI, List.flatMap_nil]; simp only [AI] at this; omega
theorem Ls {l : List S55} (h : ∀ x ∈ l, x.fName.length ≤ 300 ∧ x.A5.length ≤ 300) : ∀ x ∈ l.map toH, x.1.length ≤ 300 ∧ x.2.length ≤ 300 := fun x hx => by
  obtain ⟨y, hy, rfl⟩ := List.mem_map.1 hx
  exact h y hy
theorem J7 {m p : Str} {l : List S55} {b : Str} (hm : m.length ≤ 300) (hp : p.length ≤ 300) (hl : l.length ≤ 20) (hb : b.length ≤ 3000) (h : ∀ x ∈ l, x.fName.length ≤ 300 ∧ x.A5.length ≤ 300) :
    (BK m p (l.map toH) b).length ≤ 100000 := by
 have h1 := MA (f := m ++ 32 :: (p ++ 32 :: Di)) (last := F0 b.length) (Ls h); have h2 := PI (n := b.length) (by omega); unfold BK; simp only [List.length_append, List.length_cons, List.length_map, Di, List.length_nil] at h1 ⊢; omega
theorem U6 (q : S42) (h1 : q.Ag.length ≤ 1000000) (h2 : q.Ax.length ≤ 1000000) (hl : FB q.Aj) : F19 q = some (BJ q.Ag && CN q.Ax && Iq (q.Aj.map toH) && decide (q.An.length ≤ 60000)) := by
 unfold F19; rw [TM _ (by omega), Option.bind_some]; cases BJ q.Ag
 case false => rfl
 rw [if_pos rfl, TN _ (by omega), Option.bind_some]; cases CN q.Ax
 case false => rfl
 rw [if_pos rfl, TQ _ hl, Option.bind_some]; cases Iq (q.Aj.map toH)
 case false => rfl
 rw [if_pos rfl]; congr 1; rw [Bool.eq_iff_iff]; simp; omega
theorem NN (l : List Hd) (b : Str) (h : b.length ≤ 60000) : CP l b = Iq l := by
 simp [CP, h]
theorem Wc (q : S42) : F6 q = some (.ok true) := by
 unfold F6; rw [TX, Option.bind_some]; by_cases h0 : IL q.Aj q.An = true
 case neg => rw [if_pos h0, Du Lr]
 rw [if_neg (fun e => e h0)]; obtain ⟨hs, h3, h4, h5⟩ := Ks h0; by_cases h1 : (300 : Int) < q.Ag.length
 ·rw [if_pos h1, Du Lr]
 rw [if_neg h1]; by_cases h2 : (300 : Int) < q.Ax.length
 ·rw [if_pos h2, Du Lr]
 rw [if_neg h2]; have ht := J7 (m := q.Ag) (p := q.Ax) (l := q.Aj) (b := q.An) (by omega) (by omega) h3 h4 h5; rw [Pt q (by omega) (by omega) hs (by omega) (by omega), Option.bind_some, U6 q (by omega) (by omega) hs, Option.bind_some, NN _ _ (by omega), decide_eq_true (show q.An.length ≤ 60000 by omega), Bool.and_true]; by_cases hr : (BJ q.Ag && CN q.Ax && Iq (q.Aj.map toH)) = true
 case neg =>
  rw [if_neg hr, if_pos hr]; simp only; rw [if_pos (by simp), if_pos trivial, Du Lr]
 rw [if_pos hr, if_neg (fun e => e hr)]; simp only; simp only [Bool.and_eq_true] at hr; have hrd := Kn hr.1.1 hr.1.2 hr.2 (b := q.An) (by omega); rw [if_pos (by omega)] at hrd; have e20 : F20 (BK q.Ag q.Ax (q.Aj.map toH) q.An) = some (.ok (q, 0)) := by
  rw [U5 _ (by omega)]; unfold Lp; rw [hrd]; simp only [QY]
 rw [Du e20, if_pos trivial, TU q (by omega) (by omega) (by omega) (by omega), Option.bind_some, if_pos rfl]; simp only; rw [if_pos trivial, TW q q (by omega), Option.bind_some, if_pos (by simp), Du Lr]
end Go.Idl
namespace Go.Proofs
open Go.Shelf
def Tryz.Kt : Go.Shelf.Ren := ⟨fun | 145 => 89 | 220 => 118 | 219 => 132 | 217 => 159 | 225 => 160 | 224 => 144 | 267 => 161 | 266 => 172 | 314 => 173 | n => n, fun | 9 => 9 | 4 => 4 | 59 => 127 | 3 => 3 | 5 => 5 | 46 => 152 | 146 => 189 | 51 => 163 | n => n, fun | 1 => 3 | n => n⟩
theorem Tryz.PJ : Go.Proofs.LaysM.n145 Tryz.prog Tryz.Kt := {
  mixed := by kernel_rfl
  f145 := Tryz.func89.trans (congrArg some (by kernel_rfl))
  f217 := Tryz.func159.trans (congrArg some (by kernel_rfl))
  f219 := Tryz.func132.trans (congrArg some (by kernel_rfl))
  f220 := Tryz.func118.trans (congrArg some (by kernel_rfl))
  f224 := Tryz.func144.trans (congrArg some (by kernel_rfl))
  f225 := Tryz.func160.trans (congrArg some (by kernel_rfl))
  f266 := Tryz.func172.trans (congrArg some (by kernel_rfl))
  f267 := Tryz.func161.trans (congrArg some (by kernel_rfl))
  f314 := Tryz.func173.trans (congrArg some (by kernel_rfl))
  t3 := Tryz.underlying3
  a3 := Tryz.isAgg3
  z3 := Tryz.sizeOf3
  v3 := Tryz.zeroValue3
  t4 := Tryz.underlying4
  a4 := Tryz.isAgg4
  z4 := Tryz.sizeOf4
  v4 := Tryz.zeroValue4
  t5 := Tryz.underlying5
  a5 := Tryz.isAgg5
  z5 := Tryz.sizeOf5
  v5 := Tryz.zeroValue5
  t9 := Tryz.underlying9
  a9 := Tryz.isAgg9
  z9 := Tryz.sizeOf9
  v9 := Tryz.zeroValue9
  t46 := Tryz.underlying152
  a46 := Tryz.isAgg152
  z46 := Tryz.sizeOf152
  v46 := Tryz.zeroValue152
  t51 := Tryz.underlying163
  a51 := Tryz.isAgg163
  z51 := Tryz.sizeOf163
  v51 := Tryz.zeroValue163
  t59 := Tryz.underlying127
  a59 := Tryz.isAgg127
  z59 := Tryz.sizeOf127
  v59 := Tryz.zeroValue127
  t146 := Tryz.underlying189
  a146 := Tryz.isAgg189
  z146 := Tryz.sizeOf189
  v146 := Tryz.zeroValue189
  g1 := by kernel_rfl
  i3 := by kernel_rfl
  i4 := by kernel_rfl
  i5 := by kernel_rfl
  i9 := by kernel_rfl
  i46 := by kernel_rfl
  i51 := by kernel_rfl
  i59 := by kernel_rfl
  i146 := by kernel_rfl
  m1 := by kernel_rfl
  s1_3 := fun w h => Go.Proofs.cell_of_shapedOpen_int (zero := #[.int .i64 0]) (t := 3) h (of_decide_eq_true (by kernel_rfl)) (by kernel_rfl) rfl (by kernel_rfl) (by kernel_rfl) Tryz.underlying3 }
end Go.Proofs
namespace Go.Idl
open Go Go.RowKit Go.ChangeShapes Go.WideShapes
def HV (vs : List (Nat × Array Value)) : A0 := { next := 0, obj := fun _ => none, sn := [H6 vs] }
theorem XY (w : World) (vs : List (Nat × Array Value)) (h : ∀ p, p ∈ vs → ∃ el f, w.heap[p.1]? = some (.cells p.2 el f)) : Sim w g0 (HV vs) where
  nx := rfl
  sh := fun _ => rfl
  lt := fun k h => by cases h
  bk := fun k b h => by cases h
  inj := fun k k' b h => by cases h
  obj := fun k o h => by cases h
  old := fun b h => h.elim
  snap := fun p hp i hi => by
    obtain rfl : p = H6 vs := by simpa [HV] using hp
    have hl : i < vs.length := by simpa [H6] using hi
    obtain ⟨el, f, h1⟩ := h _ (List.getElem_mem hl)
    simp only [H6, List.getElem?_eq_getElem hl]
    exact .blk _ _ el f _ (ow0 _) h1
theorem MB {P : Program} {w : World} {name : String} {b : Nat} {xs : Array Value} (hg : P.globalNamed name = some b) (h : w.var? P name = some xs) : ∃ el f, w.heap[b]? = some (.cells xs el f) := by
 unfold World.var? at h; rw [hg] at h; simp only [Option.bind_some] at h; split at h
 ·rename_i cs el f hc; cases h; exact ⟨el, f, hc⟩
 ·cases h
theorem R3 {w : World} {b i : Nat} {x : Value} (h : w.cell? ⟨b, i, none⟩ = some x) : ∃ xs el f, w.heap[b]? = some (.cells xs el f) ∧ xs[i]? = some x := by
 simp only [World.cell?] at h; cases hb : w.heap[b]? with
 | none => rw [hb] at h; simp at h
 | some o =>
  rw [hb] at h; cases o with
  | cells xs el f => exact ⟨xs, el, f, rfl, by simpa using h⟩
  | _ => simp at h
theorem GL {H : Type} {enc : TypeId × Value → H} {a : Assume} {C : Checked} {os : Os} {f : FuncId} {fn : Func} {s : ChangeSpec} {conds : List PathCond} {apart fresh handsOn again : Bool} {X : World → Array Value → Prop}
    (hX : ∀ (w w' : World) (args : Array Value), w.heap = w'.heap → X w args → X w' args)
    (own : ownKnob C.prog.godebug = none) (started : os.Started) (noInit : C.prog.inits.idxOf? f = none) (hfn : C.prog.funcs[f]? = some fn)
    (witness : ∃ (w : World) (tape : Tape) (i : Input), w.os = os ∧ (w.forCall tape i).Shaped C.prog ∧ i.vars = [] ∧ Input.okWide C.prog (w.forCall tape i) .any w.heap.size f i ∧
      ((s.pre enc C.prog fn conds apart (w.forCall tape i).memory i.args ∧ X (w.forCall tape i).memory i.args) ∧ sizedMet enc C.prog fn (OpenSpec.ofChange s) apart (w.forCall tape i).memory i.args) ∧ a.holds C.prog (lone (Frame.enter C.prog f i.args .normal) [] (w.forCall tape i)))
    (contract : ∀ (W : World) (base : Nat) (args : Array Value) (ds gs : List (DataW H)) (before : List MemPlace),
      (∀ (j : Nat) t v, fn.params[j]? = some t → args[j]? = some v → Value.okWide C.prog W .any base t v) →
      DataW.Whole enc C.prog fn.params.toList s.vars apart W args.toList ds gs before →
      (DataW.weightsEach C.prog (fn.params.toList ++ s.plain.varTypes C.prog) (ds ++ gs)).all (· ≤ reachBytes) = true → X W args → W.ShapedOpen C.prog →
      Calls C.prog f args W fun e W' => ∃ v, e = .returned v ∧ s.post enc C.prog fn apart fresh handsOn again W args v W') :
    ReturnsInHanded a C os f .any (fun w args => (s.pre enc C.prog fn conds apart w args ∧ X w args) ∧ sizedMet enc C.prog fn (OpenSpec.ofChange s) apart w args) (s.post enc C.prog fn apart fresh handsOn again) := by
 refine returnsInHanded_of_calls own started noInit witness ?_; intro w tape i _ shape _ ok pre _; obtain ⟨_, _, _, fn2, hfn2, _, _, _, _, val⟩ := ok; have e := Option.some.inj (hfn2.symm.trans hfn); subst e; obtain ⟨⟨⟨ds, gs, before, whole, _⟩, laid⟩, sized⟩ := pre; refine Calls.mono (contract (w.forCall tape i) w.heap.size i.args ds gs before val (DataW.Whole.of_heap (by rfl) whole) (sized.weights whole) (hX _ _ _ (by rfl) laid) shape) ?_
 rintro _ W' ⟨v, rfl, post⟩
 exact ChangeSpec.post_blind post
end Go.Idl
namespace Go.Idl
open Go Go.RowKit Go.ChangeShapes Go.WideShapes
variable {P : Program} {w : World} {Hh : Type} {enc : TypeId × Value → Hh}
def RdZ (P : Program) (w : World) {Hh : Type} (enc : TypeId × Value → Hh) (t : TypeId) (S : List IV → Prop) : Prop :=
  ∀ (base : Nat) (spare : Nat → Bool) (held : Bool) (fuel : Nat) (cs : List Value) (x : DataW Hh × List MemPlace), DataW.trod enc P w base spare held fuel t cs = some x → (∀ n ∈ x.1.weights P t, n ≤ reachBytes) →
    ∃ is, S is ∧ is.length = cs.length ∧ ∀ (j : Nat) (c : Value) (i : IV), cs[j]? = some c → is[j]? = some i → c.oneCell' = true ∧ R w g0 c i
theorem Rd.z {t : TypeId} {S : List IV → Prop} (h : Rd P w enc t S) : RdZ P w enc t S := fun base spare held fuel cs x hx _ => h base spare held fuel cs x hx
theorem RdZ.mono {t : TypeId} {S S' : List IV → Prop} (h : RdZ P w enc t S) (hs : ∀ is, S is → S' is) : RdZ P w enc t S' := fun base spare held fuel cs x hx hz => let ⟨is, h1, h2⟩ := h base spare held fuel cs x hx hz; ⟨is, hs _ h1, h2⟩
theorem EH {e : TypeId} : ∀ {ds : List (DataW Hh)} {d : DataW Hh}, d ∈ ds → ∀ {n : Nat}, n ∈ d.weights P e → n ∈ DataW.weightsAll P e ds
  | d0 :: ds, d, hd, n, hn => by
    simp only [DataW.weightsAll, List.mem_append]
    rcases List.mem_cons.1 hd with e | e
    · subst e; exact .inl hn
    · exact .inr (EH e hn)
theorem NO {t e : TypeId} {E : Type} (cells : E → List IV) (hu : P.underlying t = some (.slice e)) (h0 : 0 < P.cellsOf e) (he : RdZ P w enc e fun is => ∃ x : E, is = cells x) :
    RdZ P w enc t fun is => ∃ l : List E, is = [.sl (P.cellsOf e) (l.map cells)] := by
 intro base spare held fuel cs x h hz; rcases DataW.trod_slice hu h with ⟨rfl, _⟩ | ⟨a, len, cap, elems, rest, n, _, rfl, rfl, hb, hl, hm, hlen, hel, _, _⟩
 ·exact ⟨_, ⟨[], rfl⟩, rfl, GC rfl (.sl0 _ _ _)⟩
 ·obtain ⟨l, l1, l2⟩ := Ew (fun i (y : E) => (cells y).length = P.cellsOf e ∧ ∀ (j : Nat) (i' : IV), (cells y)[j]? = some i' → ∃ c, w.cell? ((a.add (i * P.cellsOf e)).add j) = some c ∧ c.oneCell' = true ∧ R w g0 c i') len (fun i hi => by
    have hei := hel i hi
    have hne : elems[i]? = some elems[i] := List.getElem?_eq_getElem (by omega)
    rw [hne, Option.bind_eq_some_iff] at hei
    obtain ⟨ci, hc, ht⟩ := hei
    obtain ⟨q1, q2⟩ := Jt hc
    obtain ⟨is, ⟨y, rfl⟩, q3, q4⟩ := he _ _ _ _ _ _ ht fun n hn => hz n (by
      simp only [DataW.weights, hu, List.mem_cons, List.mem_append]
      exact .inr (.inl (EH (List.mem_map_of_mem (List.getElem_mem (by omega : i < elems.length))) hn)))
    refine ⟨y, by rw [q3, q1], fun j i' hj => ?_⟩
    have hjl : j < ci.length := by rw [← q3]; exact (List.getElem?_eq_some_iff.1 hj).1
    have := q4 j ci[j] i' (List.getElem?_eq_getElem hjl) hj
    exact ⟨ci[j], by rw [q2 j (by omega)]; exact List.getElem?_eq_getElem hjl, this⟩)
  refine ⟨_, ⟨l, rfl⟩, rfl, GC rfl ?_⟩; by_cases hz : len = 0
  ·subst hz; have : l = [] := List.eq_nil_of_length_eq_zero l1; subst this; exact .sl0 _ _ _
  ·have hlm : (l.map cells).length = len := by simp [l1]
   have h0l : 0 < l.length := by omega
   obtain ⟨q1, q2⟩ := l2 0 l[0] (List.getElem?_eq_getElem h0l); have hpos : 0 < (cells l[0]).length := by omega
   obtain ⟨c0, q3, _⟩ := q2 0 _ (List.getElem?_eq_getElem hpos); obtain ⟨b, off, spot⟩ := a; have hsp : spot = none ∧ b < w.heap.size := by
    have e0 : ((⟨b, off, spot⟩ : Addr).add (0 * P.cellsOf e)).add 0 = ⟨b, off, spot⟩ := by simp [Addr.add]
    rw [e0] at q3; unfold World.cell? at q3; split at q3
    ·rename_i hh; refine ⟨?_, (Array.getElem?_eq_some_iff.1 hh).1⟩; split at q3
     ·cases q3
     ·rename_i hs; simpa using hs
    ·cases q3
   obtain ⟨rfl, hlt⟩ := hsp; rw [← hlm]; refine .sl b off cap _ _ (fun i j => (w.cell? ⟨b, off + i * P.cellsOf e + j, none⟩).getD undef) (ow0 b) hlt (by rw [hlm]; have hm' : cap ≤ 9223372036854775807 := hm; unfold CY; omega) (by omega) ?_ ?_ ?_ ?_
   ·intro c hc; obtain ⟨y, hy, rfl⟩ := List.mem_map.1 hc; obtain ⟨i, hi⟩ := List.getElem?_of_mem hy; exact (l2 i y hi).1
   all_goals
    intro i ee j c h1 h2; simp only [List.getElem?_map, Option.map_eq_some_iff] at h1; obtain ⟨y, hy, rfl⟩ := h1; obtain ⟨c', r1, r2, r3⟩ := (l2 i y hy).2 j c h2; rw [addr_add, addr_add] at r1
    first | (rw [r1]; rfl) | (simp only [r1, Option.getD_some]; first | exact r2 | exact r3)
theorem RH {t : TypeId} {f0 f1 f2 : Field} {S0 S1 S2 : List IV → Prop} (ht : P.underlying t = some (.struct #[f0, f1, f2])) (hc : P.cellsOf t = P.cellsOf f0.type + P.cellsOf f1.type + P.cellsOf f2.type) (o0 : f0.offset = 0) (o1 : f1.offset = P.cellsOf f0.type) (o2 : f2.offset = P.cellsOf f0.type + P.cellsOf f1.type)
    (h0 : RdZ P w enc f0.type S0) (h1 : RdZ P w enc f1.type S1) (h2 : RdZ P w enc f2.type S2) : RdZ P w enc t fun is => ∃ i0 i1 i2, S0 i0 ∧ S1 i1 ∧ S2 i2 ∧ is = i0 ++ (i1 ++ i2) := by
 intro base spare held fuel cs x h hz; obtain ⟨xs, n, _, rfl, hl, hlen, hf⟩ := DataW.trod_struct ht h; rw [hc] at hl; have q0 := hf 0 f0 rfl; have q1 := hf 1 f1 rfl; have q2 := hf 2 f2 rfl; rw [o0] at q0; rw [o1] at q1; rw [o2] at q2
 match xs, hlen, q0, q1, q2, hz with
 | [x0, x1, x2], _, q0, q1, q2, hz =>
  have hz' : ∀ n, n ∈ x0.1.weights P f0.type ∨ n ∈ x1.1.weights P f1.type ∨ n ∈ x2.1.weights P f2.type → n ≤ reachBytes := fun n hn => hz n (by
    simp only [DataW.weights, ht, List.map_cons, List.map_nil, List.toList_toArray, DataW.weightsEach, List.mem_append, List.not_mem_nil, or_false]
    exact hn)
  obtain ⟨is0, p0, l0, r0⟩ := h0 _ _ _ _ _ _ (by simpa using q0) fun n hn => hz' n (.inl hn); obtain ⟨is1, p1, l1, r1⟩ := h1 _ _ _ _ _ _ (by simpa using q1) fun n hn => hz' n (.inr (.inl hn)); obtain ⟨is2, p2, l2, r2⟩ := h2 _ _ _ _ _ _ (by simpa using q2) fun n hn => hz' n (.inr (.inr hn)); simp only [List.length_take, List.length_drop, List.drop_zero] at l0 l1 l2; refine ⟨_, ⟨is0, is1, is2, p0, p1, p2, rfl⟩, by simp only [List.length_append]; omega, fun j c i e1 e2 => ?_⟩; have hj := (List.getElem?_eq_some_iff.1 e1).1; rcases Nat.lt_or_ge j is0.length with a | a
  ·rw [List.getElem?_append_left a] at e2; exact r0 j c i (by rw [List.getElem?_take, if_pos (by omega)]; simpa using e1) e2
  ·rw [List.getElem?_append_right a] at e2; rcases Nat.lt_or_ge (j - is0.length) is1.length with b | b
   ·rw [List.getElem?_append_left b] at e2; refine r1 (j - is0.length) c i ?_ e2; rw [List.getElem?_take, if_pos (by omega), List.getElem?_drop, show P.cellsOf f0.type + (j - is0.length) = j by omega]; exact e1
   ·rw [List.getElem?_append_right b] at e2; refine r2 (j - is0.length - is1.length) c i ?_ e2; rw [List.getElem?_take, if_pos (by omega), List.getElem?_drop, show P.cellsOf f0.type + P.cellsOf f1.type + (j - is0.length - is1.length) = j by omega]; exact e1
theorem Lt {t : TypeId} {f0 f1 : Field} {S0 S1 : List IV → Prop} (ht : P.underlying t = some (.struct #[f0, f1])) (hc : P.cellsOf t = P.cellsOf f0.type + P.cellsOf f1.type) (o0 : f0.offset = 0) (o1 : f1.offset = P.cellsOf f0.type)
    (h0 : RdZ P w enc f0.type S0) (h1 : RdZ P w enc f1.type S1) : RdZ P w enc t fun is => ∃ i0 i1, S0 i0 ∧ S1 i1 ∧ is = i0 ++ i1 := by
 intro base spare held fuel cs x h hz; obtain ⟨xs, n, _, rfl, hl, hlen, hf⟩ := DataW.trod_struct ht h; rw [hc] at hl; have q0 := hf 0 f0 rfl; have q1 := hf 1 f1 rfl; rw [o0] at q0; rw [o1] at q1
 match xs, hlen, q0, q1, hz with
 | [x0, x1], _, q0, q1, hz =>
  have hz' : ∀ n, n ∈ x0.1.weights P f0.type ∨ n ∈ x1.1.weights P f1.type → n ≤ reachBytes := fun n hn => hz n (by
    simp only [DataW.weights, ht, List.map_cons, List.map_nil, List.toList_toArray, DataW.weightsEach, List.mem_append, List.not_mem_nil, or_false]
    exact hn)
  obtain ⟨is0, p0, l0, r0⟩ := h0 _ _ _ _ _ _ (by simpa using q0) fun n hn => hz' n (.inl hn); obtain ⟨is1, p1, l1, r1⟩ := h1 _ _ _ _ _ _ (by simpa using q1) fun n hn => hz' n (.inr hn); simp only [List.length_take, List.length_drop, List.drop_zero] at l0 l1; refine ⟨_, ⟨is0, is1, p0, p1, rfl⟩, by simp only [List.length_append]; omega, fun j c i e1 e2 => ?_⟩; have hj := (List.getElem?_eq_some_iff.1 e1).1; rcases Nat.lt_or_ge j is0.length with a | a
  ·rw [List.getElem?_append_left a] at e2; exact r0 j c i (by rw [List.getElem?_take, if_pos (by omega)]; simpa using e1) e2
  ·rw [List.getElem?_append_right a] at e2; refine r1 (j - is0.length) c i ?_ e2; rw [List.getElem?_take, if_pos (by omega), List.getElem?_drop, show P.cellsOf f0.type + (j - is0.length) = j by omega]; exact e1
theorem RdZ.one {t : TypeId} {v : Value} {d : DataW Hh} {ps : List MemPlace} {S : List IV → Prop} {base : Nat} {spare : Nat → Bool} {held : Bool} (h : RdZ P w enc t S) (hv : v.cells = #[v]) (hd : DataW.Trod enc P w base spare held t v d ps)
    {ts : List TypeId} {ds : List (DataW Hh)} (hw : (DataW.weightsEach P ts ds).all (· ≤ reachBytes) = true) {k : Nat} (h1 : ts[k]? = some t) (h2 : ds[k]? = some d) : ∃ i, S [i] ∧ R w g0 v i := by
 obtain ⟨fuel, hf⟩ := hd; obtain ⟨is, h1, h2, h3⟩ := h _ _ _ _ _ _ hf fun n hn => by simpa using List.all_eq_true.1 hw _ (DataW.weights_mem_each h1 h2 n hn)
 rw [hv] at h2 h3
 match is, h2, h1, h3 with
 | [i], _, h1, h3 => exact ⟨i, h1, (h3 0 v i rfl rfl).2⟩
end Go.Idl
namespace Go.Idl
open Go Go.RowKit Go.ChangeShapes Go.WideShapes
variable {P : Program} {w : World} {Hh : Type} {enc : TypeId × Value → Hh}
theorem Lu {t : TypeId} {f0 f1 f2 f3 : Field} {S0 S1 S2 S3 : List IV → Prop} (ht : P.underlying t = some (.struct #[f0, f1, f2, f3])) (hc : P.cellsOf t = P.cellsOf f0.type + P.cellsOf f1.type + P.cellsOf f2.type + P.cellsOf f3.type) (o0 : f0.offset = 0) (o1 : f1.offset = P.cellsOf f0.type) (o2 : f2.offset = P.cellsOf f0.type + P.cellsOf f1.type) (o3 : f3.offset = P.cellsOf f0.type + P.cellsOf f1.type + P.cellsOf f2.type)
    (h0 : RdZ P w enc f0.type S0) (h1 : RdZ P w enc f1.type S1) (h2 : RdZ P w enc f2.type S2) (h3 : RdZ P w enc f3.type S3) : RdZ P w enc t fun is => ∃ i0 i1 i2 i3, S0 i0 ∧ S1 i1 ∧ S2 i2 ∧ S3 i3 ∧ is = i0 ++ (i1 ++ (i2 ++ i3)) := by
 intro base spare held fuel cs x h hz; obtain ⟨xs, n, _, rfl, hl, hlen, hf⟩ := DataW.trod_struct ht h; rw [hc] at hl; have q0 := hf 0 f0 rfl; have q1 := hf 1 f1 rfl; have q2 := hf 2 f2 rfl; have q3 := hf 3 f3 rfl; rw [o0] at q0; rw [o1] at q1; rw [o2] at q2; rw [o3] at q3
 match xs, hlen, q0, q1, q2, q3, hz with
 | [x0, x1, x2, x3], _, q0, q1, q2, q3, hz =>
  have hz' : ∀ n, n ∈ x0.1.weights P f0.type ∨ n ∈ x1.1.weights P f1.type ∨ n ∈ x2.1.weights P f2.type ∨ n ∈ x3.1.weights P f3.type → n ≤ reachBytes := fun n hn => hz n (by
    simp only [DataW.weights, ht, List.map_cons, List.map_nil, List.toList_toArray, DataW.weightsEach, List.mem_append, List.not_mem_nil, or_false]
    exact hn)
  obtain ⟨is0, p0, l0, r0⟩ := h0 _ _ _ _ _ _ (by simpa using q0) fun n hn => hz' n (.inl hn); obtain ⟨is1, p1, l1, r1⟩ := h1 _ _ _ _ _ _ (by simpa using q1) fun n hn => hz' n (.inr (.inl hn)); obtain ⟨is2, p2, l2, r2⟩ := h2 _ _ _ _ _ _ (by simpa using q2) fun n hn => hz' n (.inr (.inr (.inl hn))); obtain ⟨is3, p3, l3, r3⟩ := h3 _ _ _ _ _ _ (by simpa using q3) fun n hn => hz' n (.inr (.inr (.inr hn))); simp only [List.length_take, List.length_drop, List.drop_zero] at l0 l1 l2 l3; refine ⟨_, ⟨is0, is1, is2, is3, p0, p1, p2, p3, rfl⟩, by simp only [List.length_append]; omega, fun j c i e1 e2 => ?_⟩; have hj := (List.getElem?_eq_some_iff.1 e1).1; rcases Nat.lt_or_ge j is0.length with a | a
  ·rw [List.getElem?_append_left a] at e2; exact r0 j c i (by rw [List.getElem?_take, if_pos (by omega)]; simpa using e1) e2
  ·rw [List.getElem?_append_right a] at e2; rcases Nat.lt_or_ge (j - is0.length) is1.length with b | b
   ·rw [List.getElem?_append_left b] at e2; refine r1 (j - is0.length) c i ?_ e2; rw [List.getElem?_take, if_pos (by omega), List.getElem?_drop, show P.cellsOf f0.type + (j - is0.length) = j by omega]; exact e1
   ·rw [List.getElem?_append_right b] at e2; rcases Nat.lt_or_ge (j - is0.length - is1.length) is2.length with d | d
    ·rw [List.getElem?_append_left d] at e2; refine r2 (j - is0.length - is1.length) c i ?_ e2; rw [List.getElem?_take, if_pos (by omega), List.getElem?_drop, show P.cellsOf f0.type + P.cellsOf f1.type + (j - is0.length - is1.length) = j by omega]; exact e1
    ·rw [List.getElem?_append_right d] at e2; refine r3 (j - is0.length - is1.length - is2.length) c i ?_ e2; rw [List.getElem?_take, if_pos (by omega), List.getElem?_drop, show P.cellsOf f0.type + P.cellsOf f1.type + P.cellsOf f2.type + (j - is0.length - is1.length - is2.length) = j by omega]; exact e1
theorem RdZ.agg {t : TypeId} {cs : Array Value} {d : DataW Hh} {ps : List MemPlace} {S : List IV → Prop} {base : Nat} {spare : Nat → Bool} {held : Bool} (h : RdZ P w enc t S) (hd : DataW.Trod enc P w base spare held t (.agg cs) d ps)
    {ts : List TypeId} {ds : List (DataW Hh)} (hw : (DataW.weightsEach P ts ds).all (· ≤ reachBytes) = true) {k : Nat} (h1 : ts[k]? = some t) (h2 : ds[k]? = some d) : ∃ is, S is ∧ R w g0 (.agg cs) (.ag is) := by
 obtain ⟨fuel, hf⟩ := hd; obtain ⟨is, h1, h2, h3⟩ := h _ _ _ _ _ _ hf fun n hn => by simpa using List.all_eq_true.1 hw _ (DataW.weights_mem_each h1 h2 n hn)
 have hcs : (Value.agg cs).cells.toList = cs.toList := rfl; rw [hcs] at h2 h3; refine ⟨is, h1, .ag cs is (by simpa using h2.symm) (fun j x hx => ?_) fun j x c hx hc => (h3 j x c (by simpa using hx) hc).2⟩; have hlt : j < is.length := by
  have := (Array.getElem?_eq_some_iff.1 hx).1; rw [h2]; simpa using this
 exact (h3 j x is[j] (by simpa using hx) (List.getElem?_eq_getElem hlt)).1
theorem Wd {t : TypeId} (hu : P.underlying t = some (.int .u8)) : Rd P w enc t fun is => ∃ x : UInt8, is = [.v (.int .u8 x.toNat)] := by
 intro base spare held fuel cs x h; obtain ⟨n, rfl, _, hw⟩ := DataW.trod_int hu h; simp only [Lit.wf, Bool.and_eq_true, decide_eq_true_eq] at hw; have h1 : (0 : Int) ≤ n := hw.1; have h2 : n ≤ 255 := hw.2; refine ⟨_, ⟨UInt8.ofNat n.toNat, rfl⟩, rfl, GC rfl ?_⟩; have e : ((UInt8.ofNat n.toNat).toNat : Int) = n := by
  rw [UInt8.toNat_ofNat']; omega
 rw [e]; exact .v _
end Go.Idl
namespace Go.Proofs.YtdgfbojdppohnaaGreatDoor
open Go Go.ChangeShapes Go.WideShapes Go.ChangeAt Go.RowKit Go.Idl
theorem R4 : ownKnob Tryz.prog.godebug = none := by kernel_rfl
theorem MC : laidOutB Tryz.prog = true := by kernel_rfl
def Gg : List (String × DataW Unit) := Rows.httpRequestsRow.laid
theorem NP (os : Os) (args : Array Value) : laidMetH Tryz.prog Gg ((World.laidAll Tryz.prog os Gg).forCall (fun _ _ => 0) ⟨#[], args, []⟩).memory := by
 rw [MakeChecks.laidMetH_plain _ _ _ (by kernel_rfl)]; exact laidMet_laidAll _ (by kernel_rfl) (by kernel_rfl)
theorem Lv (os : Os) : (World.laidAll Tryz.prog os Gg).Shaped Tryz.prog := World.shaped_of_ZipB (by kernel_rfl) (by kernel_rfl)
theorem RI : "*" ++ "errors.errorString" = "*errors.errorString" := by decide
theorem PK (u : TypeId) (h : Tryz.prog.typeName? 3 u = some "*errors.errorString") : u = 173 :=
  typeName_ptr_named (nm := "errors.errorString") (by rw [RI]; kernel_rfl) (by kernel_rfl) (by decide) u (by rw [RI]; exact h)
theorem Ic : Tryz.prog.cellsOf 175 = 1 := by kernel_rfl
theorem N1 : Tryz.prog.cellsOf 9 = 1 := by kernel_rfl
theorem U7 : Tryz.prog.globalNamed "internal/strconv.uint64pow10" = some 2 := by kernel_rfl
theorem XZ : Tryz.prog.globalNamed "internal/bytealg.MaxLen" = some 3 := by kernel_rfl
theorem U8 : Tryz.prog.globalNamed "strconv.ErrSyntax" = some 0 := by kernel_rfl
theorem U9 : Tryz.prog.globalNamed "strconv.ErrRange" = some 1 := by kernel_rfl
theorem NQ {W : World} (hL : laidMetH Tryz.prog Gg W) (hs : W.ShapedOpen Tryz.prog) : ∃ vs : List (Nat × Array Value), (∀ p, p ∈ vs → ∃ el f, W.heap[p.1]? = some (.cells p.2 el f)) ∧ VOK Tryz.prog (HV vs) := by
 have h0 : laidMet Tryz.prog Gg W := hL; have h2 := h0.tail.tail; have hT : Lib.TabIs Tryz.prog W "internal/strconv.uint64pow10" .u64 Lib.pow10Tab :=
  Lib.tabIs_of_head (t := 162) (e := 135) (n := 20) U7 (by kernel_rfl) Tryz.underlying162 Tryz.underlying135 (by kernel_rfl) (by kernel_rfl) h2
 obtain ⟨a3, s3, hv3, _, _, _⟩ := laid_sentinel h2.tail.tail U9 (by kernel_rfl) Tryz.underlying65 PK Tryz.underlying173 Tryz.underlying175 rfl rfl Tryz.underlying9 Ic N1; obtain ⟨a2, s2, hv2, _, _, _⟩ := laid_sentinel h2.tail.tail.tail U8 (by kernel_rfl) Tryz.underlying65 PK Tryz.underlying173 Tryz.underlying175 rfl rfl Tryz.underlying9 Ic N1; obtain ⟨m, hm⟩ := Tryz.PJ.s1_3 W hs; obtain ⟨x4, el4, f4, hx4, hm4⟩ := R3 hm; refine ⟨[(2, (Lib.pow10Tab.map fun z => Value.int .u64 z).toArray), (0, #[.iface 173 (.pointer (some a2))]), (1, #[.iface 173 (.pointer (some a3))]), (3, x4)], ?_, ?_⟩
 ·intro p hp; simp only [List.mem_cons, List.not_mem_nil, or_false] at hp; rcases hp with rfl | rfl | rfl | rfl
  ·exact MB U7 hT
  ·exact MB U8 hv2
  ·exact MB U9 hv3
  ·exact ⟨el4, f4, hx4⟩
 ·exact ⟨2, 0, 1, 3, 173, 173, .pointer (some a2), .pointer (some a3), x4, m, U7, U8, U9, XZ, hm4, List.mem_singleton.2 rfl⟩
section
variable {w : World} {Hh : Type} {enc : TypeId × Value → Hh}
theorem rd9 : RdZ Tryz.prog w enc 9 fun is => ∃ s : List UInt8, is = [.v (str s)] := (Nx Tryz.underlying9).z
theorem X_ : RdZ Tryz.prog w enc 23 fun is => ∃ l : List UInt8, is = [.sl 1 (l.map fun x => [.v (.int .u8 x.toNat)])] := by
 have h := OH (w := w) (enc := enc) (fun x : UInt8 => [IV.v (.int .u8 x.toNat)]) Tryz.underlying23 (Nat.lt_of_lt_of_eq Nat.one_pos LW.symm) (Wd Tryz.underlying5); rw [LW] at h; exact h.z
abbrev cH (x : S55) : List IV := [.v (str x.fName), .v (str x.A5)]
theorem Y0 : RdZ Tryz.prog w enc 56 fun is => ∃ x : S55, is = cH x := by
 refine (Lt (w := w) (enc := enc) Tryz.underlying56 (by rw [Gw, JY]) rfl (by rw [Gw]) rd9 rd9).mono ?_
 rintro is ⟨i0, i1, ⟨s, rfl⟩, ⟨u, rfl⟩, rfl⟩
 exact ⟨⟨s, u⟩, rfl⟩
theorem Y1 : RdZ Tryz.prog w enc 24 fun is => ∃ l : List S55, is = [.sl 2 (l.map cH)] := by
 have h := NO (w := w) (enc := enc) cH Tryz.underlying24 (Nat.lt_of_lt_of_eq (by decide : 0 < 2) JY.symm) Y0; rw [JY] at h; exact h
abbrev cQ (a : S42) : List IV := [.v (str a.Ag), .v (str a.Ax), .sl 2 (a.Aj.map cH), .sl 1 (a.An.map fun x => [.v (.int .u8 x.toNat)])]
theorem Y2 : RdZ Tryz.prog w enc 43 fun is => ∃ a : S42, is = cQ a := by
 refine (Lu (w := w) (enc := enc) Tryz.underlying43 (by rw [Gw, MK, Qj, Qk]) rfl (by rw [Gw]) (by rw [Gw]) (by rw [Gw, MK]) rd9 rd9 Y1 X_).mono ?_
 rintro is ⟨i0, i1, i2, i3, ⟨k, rfl⟩, ⟨x, rfl⟩, ⟨d, rfl⟩, ⟨b, rfl⟩, rfl⟩
 exact ⟨⟨k, x, d, b⟩, rfl⟩
end
end Go.Proofs.YtdgfbojdppohnaaGreatDoor
namespace Go.Proofs.YtdgfbojdppohnaaGreatDoor
open Go Go.ChangeShapes Go.WideShapes Go.ChangeAt Go.RowKit Go.Idl
set_option maxRecDepth 100000 in
theorem F1 (os : Os) (started : os.Started) (H : Type) (enc : TypeId × Value → H) :
    ReturnsInHanded {} Tryz.checked os 6 .any (fun w args => (Rows.httpRequestsSpec.pre enc Tryz.prog Tryz.f6 [] false w args ∧ laidMetH Tryz.prog Gg w) ∧ sizedMet enc Tryz.prog Tryz.f6 (OpenSpec.ofChange Rows.httpRequestsSpec) false w args)
      (Rows.httpRequestsSpec.post enc Tryz.prog Tryz.f6 false true false false) := by
 refine GL (C := Tryz.checked) (X := fun w _ => laidMetH Tryz.prog Gg w) (fun _ _ _ hh h => h.of_heap hh) R4 started (by kernel_rfl) Tryz.func6
  (ChangeSpec.witness_shaped (enc := enc) (C := Tryz.checked) (os := os) (X := fun w _ => laidMetH Tryz.prog Gg w) false (World.laidAll Tryz.prog os Gg) #[.agg #[.string ⟨#[]⟩, .string ⟨#[]⟩, .slice none 0 0, .slice none 0 0]] 8 (World.laidAll_os _ _ _) (Lv os) (by kernel_rfl) (by kernel_rfl) (by kernel_rfl) (NP os _)) ?_
 intro W base args ds gs before hval0 hW hwt hL hshape; have hval : ∀ (j : Nat) t v, Tryz.f6.params[j]? = some t → args[j]? = some v → Value.okWide Tryz.prog W .any base t v := hval0; have hW' := hW; obtain ⟨p, q, hA0, hV, rfl, hfz, hnd⟩ := hW; have hA : DataW.TrodAll enc Tryz.prog W 0 (fun _ => true) true Tryz.f6.params.toList args.toList ds p := hA0; rw [Tryz.params6] at hA hval; obtain ⟨v0, d0, rfl, rfl, h0⟩ := trodAll_one hA; obtain ⟨rfl, rfl⟩ := trodVars_none hV; simp only [List.append_nil] at hW'; have hlt := hW'.lt; have hwt' : (DataW.weightsEach Tryz.prog [43] [d0]).all (· ≤ reachBytes) = true := hwt; obtain ⟨cs0, rfl, _⟩ := okWide_struct Tryz.underlying43 (hval 0 43 v0 rfl rfl); obtain ⟨is0, ⟨x0, rfl⟩, r0⟩ := Y2.agg h0 hwt' (k := 0) rfl rfl; obtain ⟨vs, hvs, hvok⟩ := NQ hL hshape
 have hcall := (W9 (H := HV vs) (K := fun e _ => e = .ret (.v (.bool true))) x0 hvok (Wc x0 )  (fun _ h => by cases h) (fun v h => by cases h; rfl)).run W g0 #[.agg cs0] (XY W vs hvs) ⟨rfl, fun j x i hx hi => by
   match j, hx, hi with
   | 0, hx, hi => simp at hx hi; subst hx; subst hi; exact r0
   | j + 1, hx, hi => simp at hx⟩
 refine hcall.mono ?_
 rintro e W' ⟨ie, g', H', hm, _, hre, rfl⟩
 have hb := J2 hm; obtain ⟨rfl⟩ : e = .returned (.bool true) := by
  cases hre with
  | ret x i h => rw [h.v_eq]
 refine ⟨_, rfl, ?_⟩; refine ⟨_, _, _, [], p, [], hW', trodAll_mk1 (shut_bool Tryz.underlying4 _), ?_, ?_, hb.frame _, fun h => by cases h⟩
 ·have hl0 : ∀ x ∈ p, x.block < W.heap.size := fun x hx => hlt x (by simp [hx]); have k0 := Below.trod MC (by kernel_rfl) (of_decide_eq_true (by kernel_rfl)) h0 hb hl0; exact ⟨p, [], k0, rfl, by simp⟩
 ·rfl
theorem GM : Rows.HttpRequestsSaid :=
  OpenClaim.holds_of_wide 6 Tryz.f6 rfl rfl rfl rfl rfl rfl rfl ⟨rfl, rfl, rfl, rfl, rfl⟩ rfl rfl rfl rfl rfl (by kernel_rfl) Tryz.func6 (by kernel_rfl)
    (of_decide_eq_true (by kernel_rfl)) (by unfold Func.isWrapper; first | (rw [if_pos (by decide +kernel)]; kernel_rfl) | (rw [if_neg (by decide +kernel)]; exact ⟨rfl, rfl⟩))
    (fun os started H enc _ => F1 os started H enc)
theorem httpRequests_holds : Rows.HttpRequestsCardSaid :=
  Claim7.holds_tied_plain_at .later [] [.data, .data, .data, .data, .sentinel, .sentinel, .pinned] true (true, "663d7417cfa5581ae58ce8d2d6daa051cc224b06a548bf6383bd50ff79baa317") true
    GM (fun _ h => by cases h) (by kernel_rfl) (fun _ h => by cases h) httpRequests_row_tie rfl ⟨rfl, rfl⟩ (by kernel_rfl) rfl
    (fun f fn hf hfn => by
      obtain rfl : f = 6 := Option.some.inj ((show Tryz.prog.funcNamed "cardcase/cardcaselaw12.HttpRequests" = some 6 by kernel_rfl).symm.trans hf) |>.symm
      obtain rfl : fn = Tryz.f6 := (Option.some.inj (Tryz.func6.symm.trans hfn)).symm
      exact ⟨by kernel_rfl, fun j t ht => by
        rw [Tryz.params6] at ht
        have hm : t ∈ [43] := by simpa using Array.mem_of_getElem? ht
        have hall : ([43].all fun u => !Tryz.prog.wantsStandIn u) = true := by kernel_rfl
        exact (show Tryz.prog.wantsStandIn t = false by simpa using List.all_eq_true.1 hall t hm)⟩)
    (by kernel_rfl)
end Go.Proofs.YtdgfbojdppohnaaGreatDoor
