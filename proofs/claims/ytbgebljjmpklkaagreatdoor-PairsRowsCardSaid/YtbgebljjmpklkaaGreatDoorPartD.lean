/- Their rows, and the pairs of these, in whatever order: the saying of the case law 20 Part 4. Conditions: none. -/
import Derived.Test.YtbgebljjmpklkaaGreatDoorPartC
import Derived.Test.YtbgebljjmpklkaaGreatDoorProg
import Derived.Ground.NamesProg
import Derived.Shelf.Sort.Plain
import Derived.Shelf.Strings.Builder1
import Derived.Shelf.Strconv.Itoa3
import Derived.Shelf.LaysM
import Derived.Shelf.SlIter.Nil
import Derived.Shelf.SortM.Plain
import Derived.Shelf.SortM.SortNone
import Derived.Ground.GgzProg
import Derived.Ground.SlgmProg
import Derived.WalkSpells
import Derived.WalkLawsBesides
import Derived.Shelf.Strings.OnBuilder
import Derived.Shelf.Strings.Split
import Derived.Shelf.LaysC
import Derived.Shelf.Strconv.AtoiAll
import Derived.Shelf.Strings.Cut
import Derived.Shelf.Strconv.ErrVarAll
set_option linter.unusedSimpArgs false
set_option linter.unusedVariables false
namespace Go.Idl
open Go
@[go_sem] theorem KD : Go.Proofs.Tryz.prog.cellsOf 3 = 1 := by kernel_rfl
@[go_sem] theorem mQ : Cr Go.Proofs.Tryz.prog 3 = false := by kernel_rfl
@[go_sem] theorem mR : Go.Proofs.Tryz.prog.bytesOf 3 = 8 := by kernel_rfl
@[go_sem] theorem ot : zeroOf Go.Proofs.Tryz.prog 3 = Option.some (Go.Value.int Go.IntKind.i64 0) := by kernel_rfl
@[go_sem] theorem mS : Go.Proofs.Tryz.prog.cellsOf 4 = 1 := by kernel_rfl
@[go_sem] theorem mT : Cr Go.Proofs.Tryz.prog 4 = false := by kernel_rfl
@[go_sem] theorem ou : zeroOf Go.Proofs.Tryz.prog 4 = Option.some (Go.Value.bool Bool.false) := by kernel_rfl
@[go_sem] theorem mU : Go.Proofs.Tryz.prog.cellsOf 5 = 1 := by kernel_rfl
@[go_sem] theorem mV : Go.Proofs.Tryz.prog.bytesOf 5 = 1 := by kernel_rfl
@[go_sem] theorem oz : zeroOf Go.Proofs.Tryz.prog 5 = Option.some (Go.Value.int Go.IntKind.u8 0) := by kernel_rfl
@[go_sem] theorem Fc : Go.Proofs.Tryz.prog.cellsOf 9 = 1 := by kernel_rfl
@[go_sem] theorem mW : Go.Proofs.Tryz.prog.bytesOf 9 = 16 := by kernel_rfl
@[go_sem] theorem iB : zeroOf Go.Proofs.Tryz.prog 9 = Option.some (Go.Value.string { data := #[] }) := by kernel_rfl
@[go_sem] theorem kU : Go.Proofs.Tryz.prog.cellsOf 27 = 1 := by kernel_rfl
@[go_sem] theorem kV : Cr Go.Proofs.Tryz.prog 27 = false := by kernel_rfl
@[go_sem] theorem mX : zeroOf Go.Proofs.Tryz.prog 27 = Option.some (Go.Value.slice Option.none 0 0) := by kernel_rfl
@[go_sem] theorem WX : Go.Proofs.Tryz.prog.cellsOf 29 = 1 := by kernel_rfl
@[go_sem] theorem kW : Cr Go.Proofs.Tryz.prog 29 = false := by kernel_rfl
@[go_sem] theorem mY : zeroOf Go.Proofs.Tryz.prog 29 = Option.some (Go.Value.slice Option.none 0 0) := by kernel_rfl
@[go_sem] theorem WY : Go.Proofs.Tryz.prog.cellsOf 30 = 1 := by kernel_rfl
@[go_sem] theorem R3 : Go.Proofs.Tryz.prog.cellsOf 32 = 8 := by kernel_rfl
@[go_sem] theorem kX : Cr Go.Proofs.Tryz.prog 32 = false := by kernel_rfl
@[go_sem] theorem zero32 : zeroOf Go.Proofs.Tryz.prog 32 = Option.some (Go.Value.agg #[Go.Value.slice Option.none 0 0, Go.Value.slice Option.none 0 0, Go.Value.slice Option.none 0 0, Go.Value.slice Option.none 0 0, Go.Value.slice Option.none 0 0, Go.Value.slice Option.none 0 0, Go.Value.slice Option.none 0 0, Go.Value.slice Option.none 0 0]) := by kernel_rfl
@[go_sem] theorem kY : Go.Proofs.Tryz.prog.cellsOf 34 = 11 := by kernel_rfl
@[go_sem] theorem kZ : Cr Go.Proofs.Tryz.prog 34 = false := by kernel_rfl
@[go_sem] theorem mZ : zeroOf Go.Proofs.Tryz.prog 34 = Option.some (Go.Value.agg #[Go.Value.string { data := #[] }, Go.Value.string { data := #[] }, Go.Value.slice Option.none 0 0, Go.Value.slice Option.none 0 0, Go.Value.slice Option.none 0 0, Go.Value.slice Option.none 0 0, Go.Value.slice Option.none 0 0, Go.Value.slice Option.none 0 0, Go.Value.slice Option.none 0 0, Go.Value.slice Option.none 0 0, Go.Value.slice Option.none 0 0]) := by kernel_rfl
@[go_sem] theorem k_ : Go.Proofs.Tryz.prog.cellsOf 36 = 12 := by kernel_rfl
@[go_sem] theorem l5 : Cr Go.Proofs.Tryz.prog 36 = false := by kernel_rfl
@[go_sem] theorem m_ : zeroOf Go.Proofs.Tryz.prog 36 = Option.some (Go.Value.agg #[Go.Value.slice Option.none 0 0, Go.Value.string { data := #[] }, Go.Value.string { data := #[] }, Go.Value.slice Option.none 0 0, Go.Value.slice Option.none 0 0, Go.Value.slice Option.none 0 0, Go.Value.slice Option.none 0 0, Go.Value.slice Option.none 0 0, Go.Value.slice Option.none 0 0, Go.Value.slice Option.none 0 0, Go.Value.slice Option.none 0 0, Go.Value.slice Option.none 0 0]) := by kernel_rfl
@[go_sem] theorem MY : Go.Proofs.Tryz.prog.cellsOf 40 = 10 := by kernel_rfl
@[go_sem] theorem l6 : Cr Go.Proofs.Tryz.prog 40 = false := by kernel_rfl
@[go_sem] theorem l7 : Go.Proofs.Tryz.prog.bytesOf 40 = 224 := by kernel_rfl
@[go_sem] theorem oA : FL Go.Proofs.Tryz.prog 9 40 = [0, 0, 1, 1, 1, 1, 1, 1, 1, 1] := by kernel_rfl
@[go_sem] theorem nh : zeroOf Go.Proofs.Tryz.prog 40 = Option.some (Go.Value.agg #[Go.Value.string { data := #[] }, Go.Value.string { data := #[] }, Go.Value.slice Option.none 0 0, Go.Value.slice Option.none 0 0, Go.Value.slice Option.none 0 0, Go.Value.slice Option.none 0 0, Go.Value.slice Option.none 0 0, Go.Value.slice Option.none 0 0, Go.Value.slice Option.none 0 0, Go.Value.slice Option.none 0 0]) := by kernel_rfl
@[go_sem] theorem MZ : Go.Proofs.Tryz.prog.cellsOf 42 = 12 := by kernel_rfl
@[go_sem] theorem l8 : Go.Proofs.Tryz.prog.cellsOf 58 = 1 := by kernel_rfl
@[go_sem] theorem l9 : Go.Proofs.Tryz.prog.cellsOf 59 = 1 := by kernel_rfl
@[go_sem] theorem ld : Go.Proofs.Tryz.prog.cellsOf 61 = 2 := by kernel_rfl
@[go_sem] theorem ni : zeroOf Go.Proofs.Tryz.prog 61 = Option.some (Go.Value.agg #[Go.Value.map Option.none, Go.Value.map Option.none]) := by kernel_rfl
@[go_sem] theorem lf : Go.Proofs.Tryz.prog.cellsOf 62 = 1 := by kernel_rfl
@[go_sem] theorem zero64 : zeroOf Go.Proofs.Tryz.prog 64 = Option.some (Go.Value.agg #[Go.Value.map Option.none, Go.Value.map Option.none, Go.Value.pointer Option.none]) := by kernel_rfl
@[go_sem] theorem lg : Go.Proofs.Tryz.prog.cellsOf 67 = 1 := by kernel_rfl
@[go_sem] theorem lq : Cr Go.Proofs.Tryz.prog 67 = false := by kernel_rfl
@[go_sem] theorem nj : zeroOf Go.Proofs.Tryz.prog 67 = Option.some (Go.Value.int Go.IntKind.i64 0) := by kernel_rfl
@[go_sem] theorem lu : Go.Proofs.Tryz.prog.cellsOf 74 = 1 := by kernel_rfl
@[go_sem] theorem lz : Cr Go.Proofs.Tryz.prog 74 = false := by kernel_rfl
@[go_sem] theorem nk : zeroOf Go.Proofs.Tryz.prog 74 = Option.some (Go.Value.slice Option.none 0 0) := by kernel_rfl
@[go_sem] theorem lB : Go.Proofs.Tryz.prog.cellsOf 77 = 1 := by kernel_rfl
@[go_sem] theorem lC : Cr Go.Proofs.Tryz.prog 77 = false := by kernel_rfl
@[go_sem] theorem nq : zeroOf Go.Proofs.Tryz.prog 77 = Option.some Go.Value.nilFunc := by kernel_rfl
@[go_sem] theorem lD : Go.Proofs.Tryz.prog.cellsOf 79 = 2 := by kernel_rfl
@[go_sem] theorem lE : Cr Go.Proofs.Tryz.prog 79 = false := by kernel_rfl
@[go_sem] theorem lF : Go.Proofs.Tryz.prog.bytesOf 79 = 32 := by kernel_rfl
@[go_sem] theorem nu : zeroOf Go.Proofs.Tryz.prog 79 = Option.some (Go.Value.agg #[Go.Value.string { data := #[] }, Go.Value.string { data := #[] }]) := by kernel_rfl
@[go_sem] theorem JL : Go.Proofs.Tryz.prog.cellsOf 90 = 2 := by kernel_rfl
@[go_sem] theorem lG : Cr Go.Proofs.Tryz.prog 90 = false := by kernel_rfl
@[go_sem] theorem lH : Go.Proofs.Tryz.prog.bytesOf 90 = 32 := by kernel_rfl
@[go_sem] theorem ZV : zeroOf Go.Proofs.Tryz.prog 90 = Option.some (Go.Value.agg #[Go.Value.string { data := #[] }, Go.Value.string { data := #[] }]) := by kernel_rfl
@[go_sem] theorem iC : Go.Proofs.Tryz.prog.cellsOf 131 = 1 := by kernel_rfl
@[go_sem] theorem iD : Cr Go.Proofs.Tryz.prog 144 = true := by kernel_rfl
@[go_sem] theorem lI : zeroOf Go.Proofs.Tryz.prog 144 = Option.some (Go.Value.agg #[Go.Value.pointer Option.none, Go.Value.slice Option.none 0 0]) := by kernel_rfl
@[go_sem] theorem iE : Go.Proofs.Tryz.prog.cellsOf 149 = 1 := by kernel_rfl
@[go_sem] theorem iF : Cr Go.Proofs.Tryz.prog 149 = false := by kernel_rfl
@[go_sem] theorem lJ : zeroOf Go.Proofs.Tryz.prog 149 = Option.some Go.Value.nilFunc := by kernel_rfl
@[go_sem] theorem iG : Go.Proofs.Tryz.prog.cellsOf 150 = 8 := by kernel_rfl
@[go_sem] theorem iH : Cr Go.Proofs.Tryz.prog 150 = false := by kernel_rfl
@[go_sem] theorem lK : zeroOf Go.Proofs.Tryz.prog 150 = Option.some (Go.Value.agg #[Go.Value.string { data := #[] }, Go.Value.string { data := #[] }, Go.Value.string { data := #[] }, Go.Value.string { data := #[] }, Go.Value.string { data := #[] }, Go.Value.string { data := #[] }, Go.Value.string { data := #[] }, Go.Value.string { data := #[] }]) := by kernel_rfl
@[go_sem] theorem iI : Go.Proofs.Tryz.prog.cellsOf 160 = 1 := by kernel_rfl
@[go_sem] theorem lM : zeroOf Go.Proofs.Tryz.prog 160 = Option.some (Go.Value.agg #[Go.Value.string { data := #[] }]) := by kernel_rfl
@[go_sem] theorem lN : zeroOf Go.Proofs.Tryz.prog 162 = Option.some (Go.Value.agg #[Go.Value.string { data := #[] }, Go.Value.bool Bool.false]) := by kernel_rfl
@[go_sem] theorem iJ : Cr Go.Proofs.Tryz.prog 187 = false := by kernel_rfl
@[go_sem] theorem lP : zeroOf Go.Proofs.Tryz.prog 187 = Option.some (Go.Value.agg #[]) := by kernel_rfl
@[go_sem] theorem iK : Go.Proofs.Tryz.prog.cellsOf 188 = 1 := by kernel_rfl
@[go_sem] theorem iL : Cr Go.Proofs.Tryz.prog 188 = false := by kernel_rfl
@[go_sem] theorem lQ : zeroOf Go.Proofs.Tryz.prog 188 = Option.some (Go.Value.pointer Option.none) := by kernel_rfl
@[go_sem] theorem lR : zeroOf Go.Proofs.Tryz.prog 190 = Option.some (Go.Value.agg #[Go.Value.string { data := #[] }, Go.Value.int Go.IntKind.i64 0]) := by kernel_rfl
@[go_sem] theorem KE : Go.Proofs.Tryz.prog.cellsOf 266 = 1 := by kernel_rfl
attribute [go_sem] Go.Proofs.Tryz.underlying0 Go.Proofs.Tryz.underlying1 Go.Proofs.Tryz.underlying2 Go.Proofs.Tryz.underlying3 Go.Proofs.Tryz.underlying4 Go.Proofs.Tryz.underlying5 Go.Proofs.Tryz.underlying6 Go.Proofs.Tryz.underlying7 Go.Proofs.Tryz.underlying8 Go.Proofs.Tryz.underlying9 Go.Proofs.Tryz.underlying10 Go.Proofs.Tryz.underlying11 Go.Proofs.Tryz.underlying12 Go.Proofs.Tryz.underlying13 Go.Proofs.Tryz.underlying14 Go.Proofs.Tryz.underlying15 Go.Proofs.Tryz.underlying16 Go.Proofs.Tryz.underlying17 Go.Proofs.Tryz.underlying18 Go.Proofs.Tryz.underlying19 Go.Proofs.Tryz.underlying20 Go.Proofs.Tryz.underlying21 Go.Proofs.Tryz.underlying22 Go.Proofs.Tryz.underlying23 Go.Proofs.Tryz.underlying24 Go.Proofs.Tryz.underlying25 Go.Proofs.Tryz.underlying26 Go.Proofs.Tryz.underlying27 Go.Proofs.Tryz.underlying28 Go.Proofs.Tryz.underlying29 Go.Proofs.Tryz.underlying30 Go.Proofs.Tryz.underlying31 Go.Proofs.Tryz.underlying32 Go.Proofs.Tryz.underlying33 Go.Proofs.Tryz.underlying34 Go.Proofs.Tryz.underlying35 Go.Proofs.Tryz.underlying36 Go.Proofs.Tryz.underlying37 Go.Proofs.Tryz.underlying38 Go.Proofs.Tryz.underlying39 Go.Proofs.Tryz.underlying40 Go.Proofs.Tryz.underlying41 Go.Proofs.Tryz.underlying42 Go.Proofs.Tryz.underlying43 Go.Proofs.Tryz.underlying44 Go.Proofs.Tryz.underlying45 Go.Proofs.Tryz.underlying46 Go.Proofs.Tryz.underlying47 Go.Proofs.Tryz.underlying48 Go.Proofs.Tryz.underlying49 Go.Proofs.Tryz.underlying50 Go.Proofs.Tryz.underlying51 Go.Proofs.Tryz.underlying52 Go.Proofs.Tryz.underlying53 Go.Proofs.Tryz.underlying54 Go.Proofs.Tryz.underlying55 Go.Proofs.Tryz.underlying56 Go.Proofs.Tryz.underlying57 Go.Proofs.Tryz.underlying58 Go.Proofs.Tryz.underlying59 Go.Proofs.Tryz.underlying60 Go.Proofs.Tryz.underlying61 Go.Proofs.Tryz.underlying62 Go.Proofs.Tryz.underlying63 Go.Proofs.Tryz.underlying64 Go.Proofs.Tryz.underlying65 Go.Proofs.Tryz.underlying66 Go.Proofs.Tryz.underlying67 Go.Proofs.Tryz.underlying68 Go.Proofs.Tryz.underlying69 Go.Proofs.Tryz.underlying70 Go.Proofs.Tryz.underlying71 Go.Proofs.Tryz.underlying72 Go.Proofs.Tryz.underlying73 Go.Proofs.Tryz.underlying74 Go.Proofs.Tryz.underlying75 Go.Proofs.Tryz.underlying76 Go.Proofs.Tryz.underlying77 Go.Proofs.Tryz.underlying78 Go.Proofs.Tryz.underlying79 Go.Proofs.Tryz.underlying80 Go.Proofs.Tryz.underlying81 Go.Proofs.Tryz.underlying82 Go.Proofs.Tryz.underlying83 Go.Proofs.Tryz.underlying84 Go.Proofs.Tryz.underlying85 Go.Proofs.Tryz.underlying86 Go.Proofs.Tryz.underlying87 Go.Proofs.Tryz.underlying88 Go.Proofs.Tryz.underlying89 Go.Proofs.Tryz.underlying90 Go.Proofs.Tryz.underlying91 Go.Proofs.Tryz.underlying92 Go.Proofs.Tryz.underlying93 Go.Proofs.Tryz.underlying94 Go.Proofs.Tryz.underlying95 Go.Proofs.Tryz.underlying96 Go.Proofs.Tryz.underlying97 Go.Proofs.Tryz.underlying98 Go.Proofs.Tryz.underlying99 Go.Proofs.Tryz.underlying100 Go.Proofs.Tryz.underlying101 Go.Proofs.Tryz.underlying102 Go.Proofs.Tryz.underlying103 Go.Proofs.Tryz.underlying104 Go.Proofs.Tryz.underlying105 Go.Proofs.Tryz.underlying106 Go.Proofs.Tryz.underlying107 Go.Proofs.Tryz.underlying108 Go.Proofs.Tryz.underlying109 Go.Proofs.Tryz.underlying110 Go.Proofs.Tryz.underlying111 Go.Proofs.Tryz.underlying112 Go.Proofs.Tryz.underlying113 Go.Proofs.Tryz.underlying114 Go.Proofs.Tryz.underlying115 Go.Proofs.Tryz.underlying116 Go.Proofs.Tryz.underlying117 Go.Proofs.Tryz.underlying118 Go.Proofs.Tryz.underlying119 Go.Proofs.Tryz.underlying120 Go.Proofs.Tryz.underlying121 Go.Proofs.Tryz.underlying122 Go.Proofs.Tryz.underlying123 Go.Proofs.Tryz.underlying124 Go.Proofs.Tryz.underlying125 Go.Proofs.Tryz.underlying126 Go.Proofs.Tryz.underlying127 Go.Proofs.Tryz.underlying128 Go.Proofs.Tryz.underlying129 Go.Proofs.Tryz.underlying130 Go.Proofs.Tryz.underlying131 Go.Proofs.Tryz.underlying132 Go.Proofs.Tryz.underlying133 Go.Proofs.Tryz.underlying134 Go.Proofs.Tryz.underlying135 Go.Proofs.Tryz.underlying136 Go.Proofs.Tryz.underlying137 Go.Proofs.Tryz.underlying138 Go.Proofs.Tryz.underlying139 Go.Proofs.Tryz.underlying140 Go.Proofs.Tryz.underlying141 Go.Proofs.Tryz.underlying142 Go.Proofs.Tryz.underlying143 Go.Proofs.Tryz.underlying144 Go.Proofs.Tryz.underlying145 Go.Proofs.Tryz.underlying146 Go.Proofs.Tryz.underlying147 Go.Proofs.Tryz.underlying148 Go.Proofs.Tryz.underlying149 Go.Proofs.Tryz.underlying150 Go.Proofs.Tryz.underlying151 Go.Proofs.Tryz.underlying152 Go.Proofs.Tryz.underlying153 Go.Proofs.Tryz.underlying154 Go.Proofs.Tryz.underlying155 Go.Proofs.Tryz.underlying156 Go.Proofs.Tryz.underlying157 Go.Proofs.Tryz.underlying158 Go.Proofs.Tryz.underlying159 Go.Proofs.Tryz.underlying160 Go.Proofs.Tryz.underlying161 Go.Proofs.Tryz.underlying162 Go.Proofs.Tryz.underlying163 Go.Proofs.Tryz.underlying164 Go.Proofs.Tryz.underlying165 Go.Proofs.Tryz.underlying166 Go.Proofs.Tryz.underlying167 Go.Proofs.Tryz.underlying168 Go.Proofs.Tryz.underlying169 Go.Proofs.Tryz.underlying170 Go.Proofs.Tryz.underlying171 Go.Proofs.Tryz.underlying172 Go.Proofs.Tryz.underlying173 Go.Proofs.Tryz.underlying174 Go.Proofs.Tryz.underlying175 Go.Proofs.Tryz.underlying176 Go.Proofs.Tryz.underlying177 Go.Proofs.Tryz.underlying178 Go.Proofs.Tryz.underlying179 Go.Proofs.Tryz.underlying180 Go.Proofs.Tryz.underlying181 Go.Proofs.Tryz.underlying182 Go.Proofs.Tryz.underlying183 Go.Proofs.Tryz.underlying184 Go.Proofs.Tryz.underlying185 Go.Proofs.Tryz.underlying186 Go.Proofs.Tryz.underlying187 Go.Proofs.Tryz.underlying188 Go.Proofs.Tryz.underlying189 Go.Proofs.Tryz.underlying190 Go.Proofs.Tryz.underlying191 Go.Proofs.Tryz.underlying192 Go.Proofs.Tryz.underlying193 Go.Proofs.Tryz.underlying194 Go.Proofs.Tryz.underlying195 Go.Proofs.Tryz.underlying196 Go.Proofs.Tryz.underlying197 Go.Proofs.Tryz.underlying198 Go.Proofs.Tryz.underlying199 Go.Proofs.Tryz.underlying200 Go.Proofs.Tryz.underlying201 Go.Proofs.Tryz.underlying202 Go.Proofs.Tryz.underlying203 Go.Proofs.Tryz.underlying204 Go.Proofs.Tryz.underlying205 Go.Proofs.Tryz.underlying206 Go.Proofs.Tryz.underlying207 Go.Proofs.Tryz.underlying208 Go.Proofs.Tryz.underlying209 Go.Proofs.Tryz.underlying210 Go.Proofs.Tryz.underlying211 Go.Proofs.Tryz.underlying212 Go.Proofs.Tryz.underlying213 Go.Proofs.Tryz.underlying214 Go.Proofs.Tryz.underlying215 Go.Proofs.Tryz.underlying216 Go.Proofs.Tryz.underlying217 Go.Proofs.Tryz.underlying218 Go.Proofs.Tryz.underlying219 Go.Proofs.Tryz.underlying220 Go.Proofs.Tryz.underlying221 Go.Proofs.Tryz.underlying222 Go.Proofs.Tryz.underlying223 Go.Proofs.Tryz.underlying224 Go.Proofs.Tryz.underlying225 Go.Proofs.Tryz.underlying226 Go.Proofs.Tryz.underlying227 Go.Proofs.Tryz.underlying228 Go.Proofs.Tryz.underlying229 Go.Proofs.Tryz.underlying230 Go.Proofs.Tryz.underlying231 Go.Proofs.Tryz.underlying232 Go.Proofs.Tryz.underlying233 Go.Proofs.Tryz.underlying234 Go.Proofs.Tryz.underlying235 Go.Proofs.Tryz.underlying236 Go.Proofs.Tryz.underlying237 Go.Proofs.Tryz.underlying238 Go.Proofs.Tryz.underlying239 Go.Proofs.Tryz.underlying240 Go.Proofs.Tryz.underlying241 Go.Proofs.Tryz.underlying242 Go.Proofs.Tryz.underlying243 Go.Proofs.Tryz.underlying244 Go.Proofs.Tryz.underlying245 Go.Proofs.Tryz.underlying246 Go.Proofs.Tryz.underlying247 Go.Proofs.Tryz.underlying248 Go.Proofs.Tryz.underlying249 Go.Proofs.Tryz.underlying250 Go.Proofs.Tryz.underlying251 Go.Proofs.Tryz.underlying252 Go.Proofs.Tryz.underlying253 Go.Proofs.Tryz.underlying254 Go.Proofs.Tryz.underlying255 Go.Proofs.Tryz.underlying256 Go.Proofs.Tryz.underlying257 Go.Proofs.Tryz.underlying258 Go.Proofs.Tryz.underlying259 Go.Proofs.Tryz.underlying260 Go.Proofs.Tryz.underlying261 Go.Proofs.Tryz.underlying262 Go.Proofs.Tryz.underlying263 Go.Proofs.Tryz.underlying264 Go.Proofs.Tryz.underlying265 Go.Proofs.Tryz.underlying266 Go.Proofs.Tryz.underlying267 Go.Proofs.Tryz.underlying268 Go.Proofs.Tryz.underlying269 Go.Proofs.Tryz.underlying270 Go.Proofs.Tryz.underlying271 Go.Proofs.Tryz.underlying272 Go.Proofs.Tryz.underlying273 Go.Proofs.Tryz.underlying274 Go.Proofs.Tryz.underlying275 Go.Proofs.Tryz.underlying276 Go.Proofs.Tryz.underlying277 Go.Proofs.Tryz.underlying278 Go.Proofs.Tryz.underlying279 Go.Proofs.Tryz.underlying280
end Go.Idl
namespace Go.Idl
open Go Go.Proofs.Tryz
@[go_sem] abbrev sS (l : List (List UInt8)) : IV := .sl 1 (l.map fun s => [.v (str s)])
theorem ZW {H : A2} {K : Aw → A2 → Prop} (a b : List (List UInt8)) (hK : ∀ r, r = decide (a = b) → K (.ret (.v (.bool r))) H) : Ac prog 118 [sS a, sS b] H K := by
 refine AP (N := 26) func118 (by kernel_rfl) rfl (by kernel_rfl) (by kernel_rfl) fun hw hbd hnb => ?_; simp only [List.mem_cons, List.not_mem_nil, or_false, forall_eq_or_imp, forall_eq, TV, List.length_map, Cm] at hbd; obtain ⟨⟨hla, _⟩, ⟨hlb, _⟩⟩ := hbd; simp (maxSteps := 1000000) (disch := omega) [go_sem]; refine BM ?_ ?_ <;> intro hc <;> (try simp at hc)
 ·simp (maxSteps := 1000000) (disch := omega) [go_sem]; refine AN (.refl hw) (.v _) (hK _ ?_)
  symm
  simp; intro e; subst e; omega
 ·simp (maxSteps := 1000000) (disch := omega) [go_sem]; refine Bk (fun tm' H' => H' = H ∧ ∃ i : Nat, tm' 0 = sS a ∧ tm' 1 = sS b ∧ tm' 5 = .v (.int .i64 i) ∧ i ≤ a.length ∧ a.take i = b.take i) (fun tm' _ => a.length - (intOf (tm' 5)).toNat) (.same ?_) ?_
  ·refine ⟨rfl, 0, ?_, ?_, ?_, ?_, ?_⟩ <;> simp [go_sem]
  ·rintro I' μ' hI hμ tm' H' ⟨rfl, i, h0, h1, h5, hi, hp⟩
   refine AF _ (by kernel_rfl) _ _ _ ?_; simp (maxSteps := 1000000) (disch := omega) [go_sem, h0, h1, h5]; refine BM ?_ ?_ <;> intro hc' <;> (try simp at hc')
   ·simp (maxSteps := 1000000) (disch := omega) [go_sem, h0, h1, h5]; refine By [0, 1, 2, 3, 4, 5, 6, 7, 8] (by kernel_rfl) (by kernel_rfl) (fun _ _ _ _ h => h) ?_; simp (maxSteps := 1000000) (disch := omega) [go_sem, h0, h1, h5]; refine BM ?_ ?_ <;> intro he <;> (try simp at he)
    ·simp (maxSteps := 1000000) (disch := omega) [go_sem, h0, h1, h5]; refine AN (.refl hw) (.v _) (hK _ ?_)
     symm
     simp
     rintro rfl
     exact he rfl
    ·simp (maxSteps := 1000000) (disch := omega) [go_sem, h0, h1, h5]; refine .of hI hμ ⟨rfl, i + 1, by simp [go_sem, h0], by simp [go_sem, h1], by simp [go_sem], by omega, ?_⟩ (by simp [go_sem, h5]; omega); rw [List.take_succ_eq_append_getElem hc', List.take_succ_eq_append_getElem (by omega), hp, he]
   ·simp (maxSteps := 1000000) (disch := omega) [go_sem, h0, h1, h5]; refine AN (.refl hw) (.v _) (hK _ ?_)
    symm
    have e : i = a.length := by omega
    subst e; simp at hp; have : b.length = a.length := by omega
    rw [← this] at hp; simpa using hp
end Go.Idl
namespace Go.Idl
open Go Go.Proofs.Tryz
def ixs (l : List IV) : List (List IV) := l.zipIdx.map fun p => [.v (.int .i64 p.2), p.1]
theorem CL (l : List IV) : (ixs l).length = l.length := by simp [ixs]
theorem JM {l : List IV} {i : Nat} (h : i < l.length) : (ixs l)[i]? = some [.v (.int .i64 i), l[i]] := by simp [ixs, h]
set_option pp.deepTerms false in
set_option maxRecDepth 4000 in
theorem U6 (l : List IV) : Iter prog 150 [.cp [.sl 1 (l.map fun x => [x])]] (ixs l) [] := by
 refine ⟨by kernel_rfl, fun lp I E H hC hy h0 => ?_⟩; refine AP (N := 18) func150 (by kernel_rfl) rfl (by kernel_rfl) (by kernel_rfl) fun hw hbd hnb => ?_; simp only [List.mem_cons, List.not_mem_nil, or_false, forall_eq_or_imp, forall_eq] at hbd; have hl : l.length ≤ 9223372036854775807 := by
  have h := hbd.2; cases h with | cp _ h => exact (by simpa [Cm] using (TV.1 (h (.sl 1 (l.map fun x => [x])) (by simp))).1)
 simp (maxSteps := 1000000) (disch := omega) [go_sem]; refine Bk (fun tm' H' => ∃ i : Nat, tm' 0 = yv lp ∧ tm' 5 = .sl 1 (l.map fun x => [x]) ∧ tm' 6 = .v (.int .i64 l.length) ∧ tm' 7 = .v (.int .i64 i) ∧ i ≤ l.length ∧ I i H') (fun tm' _ => l.length - (intOf (tm' 7)).toNat) (.same ?_) ?_
 ·exact ⟨0, by simp [go_sem], by simp [go_sem], by simp [go_sem], by simp [go_sem], by omega, h0⟩
 ·rintro I' μ' hI hμ tm' H' ⟨i, h0, h5, h6, h7, hi, hI0⟩
  refine AF _ (by kernel_rfl) _ _ _ ?_; simp (maxSteps := 1000000) (disch := omega) [go_sem, h0, h5, h6, h7]; refine BM ?_ ?_ <;> intro hc <;> (try simp at hc)
  ·simp (maxSteps := 1000000) (disch := omega) [go_sem, h0, h5, h6, h7]; refine Hw (l := lp) rfl (by kernel_rfl) (by simp [go_sem]) (by simp [go_sem]) ((hy i _ H' (JM hc) hI0).mono ?_)
   rintro b H'' (⟨rfl, h⟩ | ⟨rfl, h⟩)
   ·simp (maxSteps := 1000000) (disch := omega) [go_sem, h0, h5, h6, h7]; exact .of hI hμ ⟨i + 1, by simp [go_sem, h0], by simp [go_sem, h5], by simp [go_sem, h6], by simp [go_sem], by omega, h⟩ (by simp [go_sem, h7]; omega)
   ·simp (maxSteps := 1000000) (disch := omega) [go_sem, h0, h5, h6, h7]; exact D3 ⟨⟨_, rfl⟩, .inr h⟩
  ·simp (maxSteps := 1000000) (disch := omega) [go_sem, h0, h5, h6, h7]; have e : i = l.length := by omega
   subst e; exact D3 ⟨⟨_, rfl⟩, .inl (by rw [CL]; exact hI0)⟩
theorem iM {H : A2} {K : Aw → A2 → Prop} (x : IV) (hx : AO x = some [x]) (hK : K (.ret (.fn (.func 150) [] [.cp [x]])) H) : Ac prog 124 [x] H K := by
 refine AP (N := 4) func124 (by kernel_rfl) rfl (by kernel_rfl) (by kernel_rfl) fun hw hbd hnb => ?_; have hnx := hnb x (by simp); simp (maxSteps := 1000000) (disch := omega) [go_sem, hx]; exact BA (J := H) (Ext.refl hw |>.new _).Cy (.Oo (.ptr (cs := [x]) (hw _ (Nat.le_refl _)) (by simp [go_sem]) (by simpa using hnx))) hK
end Go.Idl
namespace Go.Idl
open Go Go.Proofs.Tryz
@[go_sem] abbrev cS (c : List (List (List UInt8))) : IV := .ag (c.map sS)
set_option pp.deepTerms false in
set_option maxRecDepth 4000 in
theorem KF {H : A2} {K : Aw → A2 → Prop} (c : List (List (List UInt8))) (hc : c.length = 8) (hK : K (.ret (.fn (.func 150) [] [.cp [.sl 1 ((c.map sS).map fun x => [x])]])) H) : Ac prog 84 [cS c] H K := by
 refine AP (N := 5) func84 (by kernel_rfl) rfl (by kernel_rfl) (by kernel_rfl) fun hw hbd hnb => ?_; simp (maxSteps := 1000000) (disch := omega) [go_sem, hc]; refine iM _ rfl ?_; simp (maxSteps := 1000000) (disch := omega) [go_sem, hc]; have e : (.sl 1 ((c.map sS).map fun x => [x]) : IV) = .sl 1 (chunks 1 8 ((c.map sS).drop 0)) := by rw [List.drop_zero, DK (by simp [hc])]
 have hbs := Fz.bs (H := H.new (.cells (c.map sS))) (J := H) H.next 0 8 1 (c.map sS) (c.map sS) (hw _ (Nat.le_refl _)) (by simp [go_sem]) rfl (by simp [hc]) (by simp [Cm]) (fzs (TY.1 (hnb (cS c) (by simp)))); rw [← e] at hbs; exact BA (J := H) (Ext.refl hw |>.new _).Cy (.Oo (.cp1 hbs)) hK
theorem WZ {H : A2} {K : Aw → A2 → Prop} (l : List (List UInt8)) (hl : l.length ≤ 1000000) (hK : K (.ret (sS l)) H) : Ac prog 90 [sS l] H K := by
 refine AP (N := 8) func90 (by kernel_rfl) rfl (by kernel_rfl) (by kernel_rfl) fun hw hbd hnb => ?_; have hnl := hnb (sS l) (by simp); simp (maxSteps := 1000000) (disch := omega) [go_sem]; refine Jm rfl (by kernel_rfl) underlying30 (by simp [go_sem]; exact ⟨rfl, rfl⟩) rfl (.inl rfl) fun b hb => ?_; simp (maxSteps := 1000000) (disch := omega) [go_sem]; refine BM ?_ ?_ <;> intro hc <;> (try simp at hc)
 ·simp (maxSteps := 1000000) (disch := omega) [go_sem]; have e : l = [] := by simpa using hb hc
  subst e; exact BA (J := H) (Ext.refl hw).Cy (.wk _ _ (.nil 1) hnl) hK
 ·simp (maxSteps := 1000000) (disch := omega) [go_sem]; refine E7 (sz := 1) (rs := []) rfl (by simp [bsI, underlying30, iB, Fc, Value.cells, Value.oneCell', rep, E5]) ?_; simp (maxSteps := 1000000) (disch := omega) [go_sem]; exact BA (J := H) ((Ext.refl hw).new _ |>.set (Nat.le_refl _) _).Cy (.row (hw _ (Nat.le_refl _)) (by simp [go_sem]) (by simp) hnl) hK
end Go.Idl
namespace Go.Idl
open Go Go.Proofs.Tryz
set_option pp.deepTerms false in
set_option maxRecDepth 4000 in
theorem ZX {H : A2} {K : Aw → A2 → Prop} (c : List (List (List UInt8))) (hc : c.length = 8) (hs : ∀ s, s ∈ c → s.length ≤ 1000000) (hK : K (.ret (cS c)) H) : Ac prog 58 [cS c] H K := by
 refine AP (N := 14) func58 (by kernel_rfl) rfl (by kernel_rfl) (by kernel_rfl) fun hw hbd hnb => ?_; have hnc := hnb (cS c) (by simp); have ht : List.take 8 (c.map sS) = c.map sS := by rw [List.take_of_length_le]; simp [hc]
 simp (maxSteps := 1000000) (disch := omega) [go_sem, hc, ht]; refine KF c hc ?_; simp (maxSteps := 1000000) (disch := omega) [go_sem, hc]; refine CV (gf := 150) (cap := [.cp [.sl 1 ((c.map sS).map fun x => [x])]]) (by kernel_rfl) (by simp [go_sem]) (U6 (c.map sS))
  (fun i Hu => Hu.obj H.next = some (.cells (c.map sS)) ∧ Hu.obj (H.next + 1) = some (.cells (List.replicate 8 (.v (.slice none 0 0)))) ∧ Ext H Hu ∧ H.next + 2 ≤ Hu.next) ?_ (by simp) ?_ ?_ ?_
 ·refine ⟨by simp [go_sem], by simp [go_sem], (Ext.refl hw).new _ |>.new _, by simp [go_sem]⟩
 ·intro args h; obtain ⟨i, hi⟩ := List.getElem?_of_mem h; simp only [ixs, List.getElem?_map, Option.map_eq_some_iff] at hi; obtain ⟨p, _, rfl⟩ := hi; rfl
 ·rintro i args Hu hx ⟨h1, h2, h3, h4⟩
  have hi : i < c.length := by
   have := (List.getElem?_eq_some_iff.1 hx).1; simpa [CL] using this
  rw [JM (by simpa using hi)] at hx; cases hx; refine AF _ (by kernel_rfl) _ _ _ ?_; simp (maxSteps := 1000000) (disch := omega) [go_sem, BV, hc]; refine AF _ (by kernel_rfl) _ _ _ ?_; simp (maxSteps := 1000000) (disch := omega) [go_sem, BV, hc, h1, h2]; refine WZ _ (hs _ (List.getElem_mem _)) ?_; simp (maxSteps := 1000000) (disch := omega) [go_sem, BV, hc, h1, h2]; have e : List.take i (List.map sS c) ++ sS c[i] :: List.drop (i + 1) (List.map sS c) = List.map sS c := by
   conv => rhs; rw [← List.take_append_drop i (List.map sS c), List.drop_eq_getElem_cons (by simpa using hi)]
   simp
  refine ⟨by simp [go_sem]; exact e, by simp [go_sem]; exact h2, h3.skip.set (Nat.le_refl _) _, by simp [go_sem]; omega⟩
 ·rintro Hu ⟨h1, h2, h3, h4⟩
  simp (maxSteps := 1000000) (disch := omega) [go_sem, hc, h1, h2]; rw [ht, ht]; exact BA (J := H) (h3.skip.set (by omega) _).Cy (.same hnc) hK
end Go.Idl
namespace Go.Idl
open Go Go.Proofs.Tryz
def Own (J : A2) (n : Nat) (r : IV) (l : List (List UInt8)) : Prop :=
  (l = [] ∧ r = .v (.slice none 0 0)) ∨ (l ≠ [] ∧ ∃ k, n ≤ k ∧ r = .bs k 0 l.length ∧ J.obj k = some (.cells (l.map fun s => .v (str s))))
end Go.Idl
namespace Go.Proofs
open Go.Shelf
def Tryz.Jo : Go.Shelf.Ren := ⟨fun | 169 => 96 | n => n, fun | 70 => 142 | 9 => 9 | 0 => 0 | 72 => 144 | 37 => 131 | 127 => 184 | 3 => 3 | 5 => 5 | n => n, fun | n => n⟩
theorem Tryz.W_ : Go.Proofs.Lays.n169 Tryz.prog Tryz.Jo := {
  mixed := by kernel_rfl
  f169 := Tryz.func96.trans (congrArg some (by kernel_rfl))
  t0 := Tryz.underlying0
  a0 := Tryz.isAgg0
  z0 := Tryz.sizeOf0
  v0 := Tryz.zeroValue0
  t3 := Tryz.underlying3
  a3 := Tryz.isAgg3
  z3 := Tryz.sizeOf3
  v3 := Tryz.zeroValue3
  t9 := Tryz.underlying9
  a9 := Tryz.isAgg9
  z9 := Tryz.sizeOf9
  v9 := Tryz.zeroValue9
  t37 := Tryz.underlying131
  a37 := Tryz.isAgg131
  z37 := Tryz.sizeOf131
  v37 := Tryz.zeroValue131
  t70 := Tryz.underlying142
  a70 := Tryz.isAgg142
  z70 := Tryz.sizeOf142
  v70 := Tryz.zeroValue142
  t72 := Tryz.underlying144
  a72 := Tryz.isAgg144
  z72 := Tryz.sizeOf144
  v72 := Tryz.zeroValue144
  t127 := Tryz.underlying184
  a127 := Tryz.isAgg184
  z127 := Tryz.sizeOf184
  v127 := Tryz.zeroValue184 }
def Tryz.YJ : Go.Shelf.Ren := ⟨fun | 171 => 95 | 243 => 129 | 246 => 152 | 283 => 176 | 284 => 177 | 285 => 178 | 286 => 179 | 129 => 175 | 317 => 198 | 318 => 199 | 319 => 200 | 320 => 201 | 337 => 207 | 338 => 208 | n => n, fun | 3 => 3 | 9 => 9 | 2 => 2 | 4 => 4 | 171 => 225 | 0 => 0 | 53 => 224 | 37 => 131 | 5 => 5 | 173 => 227 | 212 => 249 | 51 => 222 | 20 => 20 | 213 => 250 | 46 => 183 | 232 => 267 | 233 => 268 | n => n, fun | 17 => 1 | 18 => 6 | 19 => 7 | n => n⟩
def Tryz.M_ : Go.Shelf.Ren := ⟨fun | 171 => 95 | 243 => 129 | 246 => 152 | 283 => 176 | 284 => 177 | 285 => 178 | 286 => 179 | 129 => 175 | 317 => 198 | 318 => 199 | 319 => 200 | 320 => 201 | 337 => 207 | 338 => 208 | n => n, fun | 3 => 3 | 9 => 9 | 2 => 2 | 4 => 4 | 171 => 225 | 0 => 0 | 53 => 224 | 37 => 131 | 5 => 5 | 173 => 227 | 212 => 249 | 51 => 222 | 20 => 20 | 213 => 250 | 46 => 183 | 232 => 267 | 233 => 268 | n => n, fun | 17 => 1 | 18 => 6 | 19 => 7 | n => n⟩
theorem Tryz.U7 : Go.Proofs.LaysM.n171 Tryz.prog Tryz.M_ := {
  mixed := by kernel_rfl
  f129 := Tryz.func175.trans (congrArg some (by kernel_rfl))
  f171 := Tryz.func95.trans (congrArg some (by kernel_rfl))
  f243 := Tryz.func129.trans (congrArg some (by kernel_rfl))
  f246 := Tryz.func152.trans (congrArg some (by kernel_rfl))
  f283 := Tryz.func176.trans (congrArg some (by kernel_rfl))
  f284 := Tryz.func177.trans (congrArg some (by kernel_rfl))
  f285 := Tryz.func178.trans (congrArg some (by kernel_rfl))
  f286 := Tryz.func179.trans (congrArg some (by kernel_rfl))
  f317 := Tryz.func198.trans (congrArg some (by kernel_rfl))
  f318 := Tryz.func199.trans (congrArg some (by kernel_rfl))
  f319 := Tryz.func200.trans (congrArg some (by kernel_rfl))
  f320 := Tryz.func201.trans (congrArg some (by kernel_rfl))
  f337 := Tryz.func207.trans (congrArg some (by kernel_rfl))
  f338 := Tryz.func208.trans (congrArg some (by kernel_rfl))
  t0 := Tryz.underlying0
  a0 := Tryz.isAgg0
  z0 := Tryz.sizeOf0
  v0 := Tryz.zeroValue0
  t2 := Tryz.underlying2
  a2 := Tryz.isAgg2
  z2 := Tryz.sizeOf2
  v2 := Tryz.zeroValue2
  t3 := Tryz.underlying3
  a3 := Tryz.isAgg3
  z3 := Tryz.sizeOf3
  v3 := Tryz.zeroValue3
  t4 := Tryz.underlying4
  a4 := Tryz.isAgg4
  z4 := Tryz.sizeOf4
  v4 := Tryz.zeroValue4
  t5 := Tryz.underlying5
  a5 := Tryz.isAgg5
  z5 := Tryz.sizeOf5
  v5 := Tryz.zeroValue5
  t9 := Tryz.underlying9
  a9 := Tryz.isAgg9
  z9 := Tryz.sizeOf9
  v9 := Tryz.zeroValue9
  t20 := Tryz.underlying20
  a20 := Tryz.isAgg20
  z20 := Tryz.sizeOf20
  v20 := Tryz.zeroValue20
  t37 := Tryz.underlying131
  a37 := Tryz.isAgg131
  z37 := Tryz.sizeOf131
  v37 := Tryz.zeroValue131
  t46 := Tryz.underlying183
  a46 := Tryz.isAgg183
  z46 := Tryz.sizeOf183
  v46 := Tryz.zeroValue183
  t51 := Tryz.underlying222
  a51 := Tryz.isAgg222
  z51 := Tryz.sizeOf222
  v51 := Tryz.zeroValue222
  t53 := Tryz.underlying224
  a53 := Tryz.isAgg224
  z53 := Tryz.sizeOf224
  v53 := Tryz.zeroValue224
  t171 := Tryz.underlying225
  a171 := Tryz.isAgg225
  z171 := Tryz.sizeOf225
  v171 := Tryz.zeroValue225
  t173 := Tryz.underlying227
  a173 := Tryz.isAgg227
  z173 := Tryz.sizeOf227
  v173 := Tryz.zeroValue227
  t212 := Tryz.underlying249
  a212 := Tryz.isAgg249
  z212 := Tryz.sizeOf249
  v212 := Tryz.zeroValue249
  t213 := Tryz.underlying250
  a213 := Tryz.isAgg250
  z213 := Tryz.sizeOf250
  t232 := Tryz.underlying267
  a232 := Tryz.isAgg267
  z232 := Tryz.sizeOf267
  v232 := Tryz.zeroValue267
  t233 := Tryz.underlying268
  a233 := Tryz.isAgg268
  z233 := Tryz.sizeOf268
  v233 := Tryz.zeroValue268
  g17 := by kernel_rfl
  g18 := by kernel_rfl
  g19 := by kernel_rfl
  i0 := by kernel_rfl
  i2 := by kernel_rfl
  i3 := by kernel_rfl
  i4 := by kernel_rfl
  i5 := by kernel_rfl
  i9 := by kernel_rfl
  i20 := by kernel_rfl
  i37 := by kernel_rfl
  i46 := by kernel_rfl
  i51 := by kernel_rfl
  i53 := by kernel_rfl
  i171 := by kernel_rfl
  i173 := by kernel_rfl
  i212 := by kernel_rfl
  i232 := by kernel_rfl
  i233 := by kernel_rfl
  m17 := by kernel_rfl
  m18 := by kernel_rfl
  m19 := by kernel_rfl }
def Tryz.KG : Go.Shelf.Ren := ⟨fun | 10 => 75 | n => n, fun | 33 => 77 | 23 => 58 | 0 => 0 | 4 => 4 | 26 => 9 | 3 => 40 | n => n, fun | n => n⟩
theorem Tryz.ZY : Go.Proofs.SlLaysZ.n10 Tryz.prog Tryz.KG := {
  mixed := by kernel_rfl
  f10 := ⟨Tryz.f75.name, by decide, Tryz.func75.trans (congrArg some (by kernel_rfl))⟩
  t0 := Tryz.underlying0
  a0 := Tryz.isAgg0
  z0 := Tryz.sizeOf0
  v0 := Tryz.zeroValue0
  t4 := Tryz.underlying4
  a4 := Tryz.isAgg4
  z4 := Tryz.sizeOf4
  v4 := Tryz.zeroValue4
  t23 := Tryz.underlying58
  a23 := Tryz.isAgg58
  z23 := Tryz.sizeOf58
  v23 := Tryz.zeroValue58
  t26 := Tryz.underlying9
  a26 := Tryz.isAgg9
  z26 := Tryz.sizeOf9
  v26 := Tryz.zeroValue9
  t33 := Tryz.underlying77
  a33 := Tryz.isAgg77
  z33 := Tryz.sizeOf77
  v33 := Tryz.zeroValue77 }
def Tryz.Hy : Go.Shelf.Ren := ⟨fun | 6 => 74 | 8 => 116 | 9 => 117 | 11 => 146 | 13 => 148 | 12 => 147 | 23 => 174 | 24 => 175 | 14 => 165 | 15 => 166 | 16 => 167 | 17 => 168 | 18 => 169 | 19 => 170 | 20 => 171 | 21 => 172 | 22 => 173 | 25 => 192 | 26 => 193 | 27 => 194 | 28 => 195 | 29 => 196 | 30 => 197 | 31 => 206 | n => n, fun | 26 => 9 | 28 => 98 | 24 => 30 | 0 => 0 | 3 => 3 | 37 => 183 | 48 => 222 | 50 => 224 | 4 => 4 | 40 => 216 | 39 => 215 | 45 => 163 | 5 => 5 | 9 => 9 | 51 => 242 | 55 => 246 | 57 => 257 | 58 => 258 | 33 => 77 | n => n, fun | n => n⟩
theorem Tryz.U8 : Go.Proofs.SlLaysZ.n6 Tryz.prog Tryz.Hy := {
  mixed := by kernel_rfl
  f6 := ⟨Tryz.f74.name, by decide, Tryz.func74.trans (congrArg some (by kernel_rfl))⟩
  f8 := ⟨Tryz.f116.name, by decide, Tryz.func116.trans (congrArg some (by kernel_rfl))⟩
  f11 := ⟨Tryz.f146.name, by decide, Tryz.func146.trans (congrArg some (by kernel_rfl))⟩
  t0 := Tryz.underlying0
  a0 := Tryz.isAgg0
  z0 := Tryz.sizeOf0
  v0 := Tryz.zeroValue0
  t24 := Tryz.underlying30
  a24 := Tryz.isAgg30
  z24 := Tryz.sizeOf30
  v24 := Tryz.zeroValue30
  t26 := Tryz.underlying9
  a26 := Tryz.isAgg9
  z26 := Tryz.sizeOf9
  v26 := Tryz.zeroValue9
  t28 := Tryz.underlying98
  a28 := Tryz.isAgg98
  z28 := Tryz.sizeOf98
  v28 := Tryz.zeroValue98
  i26 := by kernel_rfl }
def Tryz.Ow : Go.Shelf.Ren := ⟨fun | 6 => 117 | 8 => 148 | 9 => 147 | 19 => 174 | 20 => 175 | 21 => 165 | 22 => 166 | 23 => 167 | 24 => 168 | 25 => 169 | 26 => 170 | 27 => 171 | 28 => 172 | 29 => 173 | 36 => 192 | 31 => 193 | 32 => 194 | 37 => 195 | 38 => 196 | 39 => 197 | 41 => 206 | n => n, fun | 27 => 30 | 29 => 9 | 3 => 3 | 32 => 183 | 26 => 30 | 0 => 0 | 44 => 222 | 46 => 224 | 4 => 4 | 36 => 216 | 35 => 215 | 41 => 163 | 5 => 5 | 9 => 9 | 53 => 242 | 57 => 246 | 63 => 257 | 64 => 258 | n => n, fun | n => n⟩
theorem Tryz.R4 : Go.Proofs.SlLaysM.n6 Tryz.prog Tryz.Ow := {
  mixed := by kernel_rfl
  f6 := ⟨Tryz.f117.name, by decide, Tryz.func117.trans (congrArg some (by kernel_rfl))⟩
  f8 := Tryz.func148.trans (congrArg some (by kernel_rfl))
  f9 := ⟨Tryz.f147.name, by decide, Tryz.func147.trans (congrArg some (by kernel_rfl))⟩
  f19 := Tryz.func174.trans (congrArg some (by kernel_rfl))
  f20 := Tryz.func175.trans (congrArg some (by kernel_rfl))
  f21 := ⟨Tryz.f165.name, by decide, Tryz.func165.trans (congrArg some (by kernel_rfl))⟩
  f22 := ⟨Tryz.f166.name, by decide, Tryz.func166.trans (congrArg some (by kernel_rfl))⟩
  f23 := ⟨Tryz.f167.name, by decide, Tryz.func167.trans (congrArg some (by kernel_rfl))⟩
  f24 := ⟨Tryz.f168.name, by decide, Tryz.func168.trans (congrArg some (by kernel_rfl))⟩
  f25 := ⟨Tryz.f169.name, by decide, Tryz.func169.trans (congrArg some (by kernel_rfl))⟩
  f26 := ⟨Tryz.f170.name, by decide, Tryz.func170.trans (congrArg some (by kernel_rfl))⟩
  f27 := ⟨Tryz.f171.name, by decide, Tryz.func171.trans (congrArg some (by kernel_rfl))⟩
  f28 := ⟨Tryz.f172.name, by decide, Tryz.func172.trans (congrArg some (by kernel_rfl))⟩
  f29 := ⟨Tryz.f173.name, by decide, Tryz.func173.trans (congrArg some (by kernel_rfl))⟩
  f31 := Tryz.func193.trans (congrArg some (by kernel_rfl))
  f32 := Tryz.func194.trans (congrArg some (by kernel_rfl))
  f36 := ⟨Tryz.f192.name, by decide, Tryz.func192.trans (congrArg some (by kernel_rfl))⟩
  f37 := ⟨Tryz.f195.name, by decide, Tryz.func195.trans (congrArg some (by kernel_rfl))⟩
  f38 := ⟨Tryz.f196.name, by decide, Tryz.func196.trans (congrArg some (by kernel_rfl))⟩
  f39 := ⟨Tryz.f197.name, by decide, Tryz.func197.trans (congrArg some (by kernel_rfl))⟩
  f41 := ⟨Tryz.f206.name, by decide, Tryz.func206.trans (congrArg some (by kernel_rfl))⟩
  t0 := Tryz.underlying0
  a0 := Tryz.isAgg0
  z0 := Tryz.sizeOf0
  v0 := Tryz.zeroValue0
  t3 := Tryz.underlying3
  a3 := Tryz.isAgg3
  z3 := Tryz.sizeOf3
  v3 := Tryz.zeroValue3
  t4 := Tryz.underlying4
  a4 := Tryz.isAgg4
  z4 := Tryz.sizeOf4
  v4 := Tryz.zeroValue4
  t5 := Tryz.underlying5
  a5 := Tryz.isAgg5
  z5 := Tryz.sizeOf5
  v5 := Tryz.zeroValue5
  t9 := Tryz.underlying9
  a9 := Tryz.isAgg9
  z9 := Tryz.sizeOf9
  v9 := Tryz.zeroValue9
  t26 := Tryz.underlying30
  a26 := Tryz.isAgg30
  z26 := Tryz.sizeOf30
  v26 := Tryz.zeroValue30
  t27 := Tryz.underlying30
  a27 := Tryz.isAgg30
  z27 := Tryz.sizeOf30
  v27 := Tryz.zeroValue30
  t29 := Tryz.underlying9
  a29 := Tryz.isAgg9
  z29 := Tryz.sizeOf9
  v29 := Tryz.zeroValue9
  t32 := Tryz.underlying183
  a32 := Tryz.isAgg183
  z32 := Tryz.sizeOf183
  v32 := Tryz.zeroValue183
  t35 := Tryz.underlying215
  a35 := Tryz.isAgg215
  z35 := Tryz.sizeOf215
  v35 := Tryz.zeroValue215
  t36 := Tryz.underlying216
  a36 := Tryz.isAgg216
  z36 := Tryz.sizeOf216
  v36 := Tryz.zeroValue216
  t41 := Tryz.underlying163
  a41 := Tryz.isAgg163
  z41 := Tryz.sizeOf163
  v41 := Tryz.zeroValue163
  t44 := Tryz.underlying222
  a44 := Tryz.isAgg222
  z44 := Tryz.sizeOf222
  v44 := Tryz.zeroValue222
  t46 := Tryz.underlying224
  a46 := Tryz.isAgg224
  z46 := Tryz.sizeOf224
  v46 := Tryz.zeroValue224
  t53 := Tryz.underlying242
  a53 := Tryz.isAgg242
  z53 := Tryz.sizeOf242
  v53 := Tryz.zeroValue242
  t57 := Tryz.underlying246
  a57 := Tryz.isAgg246
  z57 := Tryz.sizeOf246
  v57 := Tryz.zeroValue246
  t63 := Tryz.underlying257
  a63 := Tryz.isAgg257
  z63 := Tryz.sizeOf257
  v63 := Tryz.zeroValue257
  t64 := Tryz.underlying258
  a64 := Tryz.isAgg258
  z64 := Tryz.sizeOf258
  v64 := Tryz.zeroValue258 }
end Go.Proofs
namespace Go.Idl
open Go Go.RowKit Go.Proofs Go.Shelf
variable {P : Program} {H : A2}
end Go.Idl
namespace Go.Idl
open Go Go.Proofs.Tryz
def Df (l : List (List UInt8)) : List (List UInt8) := l.mergeSort fun x y => decide (x ≤ y)
theorem N0 (l : List (List UInt8)) : (Df l).length = l.length := by simp [Df]
end Go.Idl
namespace Go.Idl
open Go Go.RowKit
variable {P : Program} {N : Nat} {tm : Tm} {H : A2}
@[go_sem] theorem ZZ {d : Option Tmp} {t : TypeId} {p : String} {af : Array Edge} {gd : Option (Nat × Bool)} {K : IV → A2 → Prop} {Qp : List PanicEntry → A2 → Prop} {x : Operand} {a : TypeId} :
    BL P N ⟨d, .call ⟨.builtin .clear, #[x], #[a]⟩, t, p, af, gd⟩ tm H K Qp = AD P N ⟨d, .call ⟨.builtin .clear, #[x], #[a]⟩, t, p, af, gd⟩ tm H K Qp := rfl
end Go.Idl
namespace Go.Idl
open Go Go.Proofs.Tryz
theorem Jp : ∀ (m : Nat) (l : List IV), m ≤ l.length → chunks 1 m l = (l.take m).map fun x => [x]
  | 0, l, _ => by simp [chunks]
  | m + 1, [], h => by simp at h
  | m + 1, x :: l, h => by
    simp [chunks, Jp m l (by simpa using h)]
theorem iN {H J : A2} {k m : Nat} {cs : List (List UInt8)} {r : List (List UInt8)} (hk : J.obj k = none) (ho : H.obj k = some (.cells (cs.map fun s => .v (str s)))) (hr : cs.take m = r) (hm : m ≤ cs.length) (hl : cs.length ≤ 1000000) : Fz H J (.bs k 0 m) (sS r) := by
 have := Fz.bs (J := J) k 0 m 1 _ _ hk ho rfl (by simp; omega) (by simp only [Cm]; omega) (fzs (by simp [Sn])); rw [List.drop_zero, Jp _ _ (by simpa using hm), ← List.map_take, hr] at this; rw [List.map_map] at this; exact this
@[go_sem] theorem set_set {H : A2} {k : Nat} {a b : HO} : (H.set k a).set k b = H.set k b := by
 unfold A2.set; simp only; congr 1; funext i; split <;> rfl
end Go.Idl
namespace Go.Idl
open Go Go.Proofs.Tryz
theorem Z_ {H : A2} {K : Aw → A2 → Prop} (f : Int) (hK : K (.ret (.v (.int .i64 (if 6 ≤ f then 8 else 1)))) H) : Ac prog 86 [.v (.int .i64 f)] H K := by
 refine AP (N := 5) func86 (by kernel_rfl) rfl (by kernel_rfl) (by kernel_rfl) fun hw hbd hnb => ?_; simp (maxSteps := 1000000) (disch := omega) [go_sem]; refine BM ?_ ?_ <;> intro hc <;> (try simp at hc)
 ·simp (maxSteps := 1000000) (disch := omega) [go_sem]; rw [if_pos hc] at hK; exact AN (.refl hw) (.v _) hK
 ·simp (maxSteps := 1000000) (disch := omega) [go_sem]; rw [if_neg (by omega)] at hK; exact AN (.refl hw) (.v _) hK
theorem X0 {H : A2} {K : Aw → A2 → Prop} (f : Int) (hK : K (.ret (.fn (.func 125) [] [.cp [.v (.int .i64 f)]])) H) : Ac prog 85 [.v (.int .i64 f)] H K := by
 refine AP (N := 4) func85 (by kernel_rfl) rfl (by kernel_rfl) (by kernel_rfl) fun hw hbd hnb => ?_; simp (maxSteps := 1000000) (disch := omega) [go_sem]; exact BA (J := H) (Ext.refl hw |>.new _).Cy (.Oo (.ptr (cs := [.v (.int .i64 f)]) (hw _ (Nat.le_refl _)) (by simp [go_sem]) (by simp [Sn]))) hK
def B5 : List (List UInt8) → Bool
  | x :: y :: t => Op.bytesLess x y && B5 (y :: t)
  | _ => true
theorem KH (l : List (List UInt8)) (i : Nat) (h1 : 1 ≤ i) (h : i < l.length) : B5 (l.take (i + 1)) = (B5 (l.take i) && Op.bytesLess l[i - 1] l[i]) := by
 induction l generalizing i with
 | nil => simp at h
 | cons x t ih =>
  obtain ⟨j, rfl⟩ : ∃ j, i = j + 1 := ⟨i - 1, by omega⟩; cases t with
  | nil => simp at h
  | cons y t =>
   cases j with
   | zero => simp [B5]
   | succ j =>
    have := ih (j + 1) (by omega) (by simpa using h); simp only [List.take_succ_cons, B5, List.getElem_cons_succ] at this ⊢; rw [this, Bool.and_assoc]; rfl
theorem GH : ∀ (l : List (List UInt8)) (n : Nat), B5 l = true → B5 (l.take n) = true
  | [], n, _ => by simp [B5]
  | [x], n, _ => by cases n <;> simp [B5]
  | x :: y :: t, n, h => by
    simp only [B5, Bool.and_eq_true] at h
    match n with
    | 0 => simp [B5]
    | 1 => simp [B5]
    | n + 2 =>
      have := GH (y :: t) (n + 1) h.2
      simp only [List.take_succ_cons] at this ⊢
      simp only [B5, h.1, this, Bool.and_self]
set_option pp.deepTerms false in
set_option maxRecDepth 4000 in
theorem X1 {H : A2} {K : Aw → A2 → Prop} (l : List (List UInt8)) (hl : l.length ≤ 1000000) (hK : K (.ret (.v (.bool (B5 l)))) H) : Ac prog 89 [sS l] H K := by
 refine AP (N := 20) func89 (by kernel_rfl) rfl (by kernel_rfl) (by kernel_rfl) fun hw hbd hnb => ?_; simp (maxSteps := 1000000) (disch := omega) [go_sem]; refine Bk (fun tm' H' => H' = H ∧ ∃ i : Nat, tm' 0 = sS l ∧ tm' 3 = .v (.int .i64 i) ∧ 1 ≤ i ∧ (i ≤ l.length ∨ l = []) ∧ B5 (l.take i) = true) (fun tm' _ => l.length - (intOf (tm' 3)).toNat) (.same ?_) ?_
 ·refine ⟨rfl, 1, by simp [go_sem], by simp [go_sem], by omega, ?_, ?_⟩
  ·cases l with
   | nil => exact .inr rfl
   | cons x t => exact .inl (by simp)
  ·cases l with
   | nil => rfl
   | cons x t => simp [B5]
 rintro I' μ' hI hμ tm' H' ⟨rfl, i, h0, h3, hi, hi2, hr⟩
 refine AF _ (by kernel_rfl) _ _ _ ?_; have hix : (i : Int) ≤ 1000001 ∨ (l.length : Int) < i := by omega
 simp (maxSteps := 1000000) (disch := omega) [go_sem, h0, h3]; refine BM ?_ ?_ <;> intro hc <;> (try simp at hc)
 ·simp (maxSteps := 1000000) (disch := omega) [go_sem, h0, h3]; refine By [0, 1, 2, 3, 4, 5, 6, 7, 8, 9] (by kernel_rfl) (by kernel_rfl) (fun _ _ _ _ h => h) ?_; simp (maxSteps := 1000000) (disch := omega) [go_sem, h0, h3]; have hrt := KH l i hi hc; refine BM ?_ ?_ <;> intro he <;> (try simp at he)
  ·simp (maxSteps := 1000000) (disch := omega) [go_sem, h0, h3]; have e : B5 l = false := by
    cases hh : B5 l with
    | false => rfl
    | true =>
     have := GH l (i + 1) hh; rw [hrt, he, Bool.and_false] at this; cases this
   rw [e] at hK; exact AN (.refl hw) (.v _) hK
  ·simp (maxSteps := 1000000) (disch := omega) [go_sem, h0, h3]; refine .of hI hμ ⟨rfl, i + 1, by simp [go_sem, h0], by simp [go_sem], by omega, .inl (by omega), ?_⟩ (by simp [go_sem, h3]; omega); rw [hrt, hr, he]; rfl
 ·simp (maxSteps := 1000000) (disch := omega) [go_sem, h0, h3]; have e : l.take i = l := by rw [List.take_of_length_le (by omega)]
  rw [e] at hr; rw [hr] at hK; exact AN (.refl hw) (.v _) hK
set_option pp.deepTerms false in
set_option maxRecDepth 4000 in
theorem X2 {H : A2} {K : Aw → A2 → Prop} (l : List (List UInt8)) (hl : l.length ≤ 1000000) (ff : FuncId) (cap : List IV) (p : List UInt8 → Bool)
    (hp : ∀ s, s ∈ l → ∀ K' : Aw → A2 → Prop, K' (.ret (.v (.bool (p s)))) H → Ac prog ff (.v (str s) :: cap) H K')
    (hK : ∀ n : Int, (0 ≤ n ↔ l.any p = true) → K (.ret (.v (.int .i64 n))) H) : Ac prog 126 [sS l, .fn (.func ff) [] cap] H K := by
 refine AP (N := 19) func126 (by kernel_rfl) rfl (by kernel_rfl) (by kernel_rfl) fun hw hbd hnb => ?_; simp (maxSteps := 1000000) (disch := omega) [go_sem]; refine Bk (fun tm' H' => H' = H ∧ ∃ i : Nat, tm' 0 = sS l ∧ tm' 1 = .fn (.func ff) [] cap ∧ tm' 7 = .v (.int .i64 l.length) ∧ tm' 8 = .v (.int .i64 i) ∧ i ≤ l.length ∧ ∀ s ∈ l.take i, p s = false) (fun tm' _ => l.length - (intOf (tm' 8)).toNat) (.same ?_) ?_
 ·exact ⟨rfl, 0, by simp [go_sem], by simp [go_sem], by simp [go_sem], by simp [go_sem], by omega, by simp⟩
 rintro I' μ' hI hμ tm' H' ⟨rfl, i, h0, h1, h7, h8, hi, hr⟩
 refine AF _ (by kernel_rfl) _ _ _ ?_; simp (maxSteps := 1000000) (disch := omega) [go_sem, h0, h1, h7, h8]; refine BM ?_ ?_ <;> intro hc <;> (try simp at hc)
 ·simp (maxSteps := 1000000) (disch := omega) [go_sem, h0, h1, h7, h8]; refine hp l[i] (List.getElem_mem _) _ ?_; simp (maxSteps := 1000000) (disch := omega) [go_sem, h0, h1, h7, h8]; refine BM ?_ ?_ <;> intro he <;> (try simp at he)
  ·simp (maxSteps := 1000000) (disch := omega) [go_sem, h0, h1, h7, h8]; refine AN (.refl hw) (.v _) (hK _ ⟨fun _ => ?_, fun _ => by omega⟩); exact List.any_eq_true.2 ⟨l[i], List.getElem_mem _, he⟩
  ·simp (maxSteps := 1000000) (disch := omega) [go_sem, h0, h1, h7, h8]; refine .of hI hμ ⟨rfl, i + 1, by simp [go_sem, h0], by simp [go_sem, h1], by simp [go_sem, h7], by simp [go_sem], by omega, fun s hs => ?_⟩ (by simp [go_sem, h8]; omega); rw [List.take_succ_eq_append_getElem hc, List.mem_append] at hs; rcases hs with hs | hs
   ·exact hr s hs
   ·simp at hs; subst hs; exact he
 ·simp (maxSteps := 1000000) (disch := omega) [go_sem, h0, h1, h7, h8]; refine AN (.refl hw) (.v _) (hK _ ⟨fun h => by omega, fun h => ?_⟩); have e : i = l.length := by omega
  subst e; obtain ⟨s, hs, hps⟩ := List.any_eq_true.1 h; rw [hr s (by simpa using hs)] at hps; cases hps
theorem PW {H : A2} {K : Aw → A2 → Prop} (l : List (List UInt8)) (hl : l.length ≤ 1000000) (ff : FuncId) (cap : List IV) (p : List UInt8 → Bool)
    (hp : ∀ s, s ∈ l → ∀ K' : Aw → A2 → Prop, K' (.ret (.v (.bool (p s)))) H → Ac prog ff (.v (str s) :: cap) H K')
    (hK : K (.ret (.v (.bool (l.any p)))) H) : Ac prog 87 [sS l, .fn (.func ff) [] cap] H K := by
 refine AP (N := 9) func87 (by kernel_rfl) rfl (by kernel_rfl) (by kernel_rfl) fun hw hbd hnb => ?_; simp (maxSteps := 1000000) (disch := omega) [go_sem]; refine X2 l hl ff cap p hp fun n hn => ?_; simp (maxSteps := 1000000) (disch := omega) [go_sem]; have e : l.any p = decide (0 ≤ n) := by
  cases h : l.any p with
  | true => simp [hn.2 h]
  | false => simp only [h] at hn; simp at hn; simp; omega
 rw [e] at hK; exact AN (.refl hw) (.v _) hK
end Go.Idl
namespace Go.Idl
open Go Go.RowKit
variable {P : Program} {N : Nat} {tm : Tm} {H : A2}
theorem Jq {e : TypeId} (s : ByteArray) (w : World) : ∃ w' cap xs f, (Conv.stringToBytes e s).run P w = .ok (.slice (some ⟨w.heap.size, 0, none⟩) s.size cap) w' ∧ s.size ≤ cap ∧
    w.heap.size < w'.heap.size ∧ w'.os = w.os ∧ w'.tape = w.tape ∧ w'.output = w.output ∧ (∀ b, b < w.heap.size → w'.heap[b]? = w.heap[b]?) ∧ w'.heap[w.heap.size]? = some (.cells xs e f) ∧ xs.size = cap ∧
    Jd xs.size f ∧ (∀ j, j < s.size → xs[j]? = some (.int .u8 ((bytes s).getD j 0).toNat)) := by
 let cap := grownCap w s.size 0 e
 let xs : Array Value := (s.data.map fun b => Value.int .u8 b.toNat) ++ Array.replicate (cap - s.size) (.int .u8 0)
 have hge : s.size ≤ cap := grownCap_ge w s.size 0 e; have hsz : xs.size = cap := by
  have : s.data.size = s.size := rfl; simp [xs]; omega
 have hhp : (w.drew.alloc (.cells xs e)).heap.size = w.heap.size + 1 := by
  show (w.heap.push _).size = _; simp
 have hnew : (w.drew.alloc (.cells xs e)).heap[w.heap.size]? = some (.cells xs e (0, 0)) := by
  have := World.alloc_heap_new w.drew (.cells xs e); exact this
 have hfz : ∀ i, ((w.drew.alloc (.cells xs e)).freeze ⟨w.heap.size, xs.size, none⟩ 1).heap[i]? = if i = w.heap.size then some (.cells xs e (xs.size, xs.size + 1)) else w.heap[i]? := by
  intro i; simp only [World.freeze]; rw [if_neg (by omega), Array.getElem?_modify]; by_cases h : i = w.heap.size
  ·rw [if_pos h.symm, if_pos h, h, hnew]; rfl
  ·rw [if_neg (fun h' => h h'.symm), if_neg h, B4]; have : ¬ i = w.drew.heap.size := h; rw [if_neg this]; rfl
 refine ⟨(w.drew.alloc (.cells xs e)).freeze ⟨w.heap.size, xs.size, none⟩ 1, cap, xs, (xs.size, xs.size + 1), ?_, hge, ?_, rfl, rfl, rfl, fun b hb => by rw [hfz, if_neg (by omega)], by rw [hfz, if_pos rfl], hsz, fun i hi h => by simp at h; omega, fun j hj => ?_⟩
 ·unfold Conv.stringToBytes; have hsh : (w.drew.alloc (.cells xs e)).shape? w.heap.size = some (e, xs.size) := by simp only [World.shape?, hnew]
  have hch : (choose (.appendCap s.size 0 e)).run P w = .ok cap w.drew := by
   rw [run_choose]; simp only [Question.forced, Bool.false_eq_true, if_false]; rfl
  simp only [Sem.run_bind, hch, Result.andThen_ok, newRow, run_newObj_alloc, Sem.run_pure, markStringish, run_shape]; have hxs : (s.data.map fun b => Value.int .u8 b.toNat) ++ Array.replicate (cap - s.size) (.int .u8 0) = xs := rfl; rw [hxs]; have hdh : w.drew.heap.size = w.heap.size := rfl; rw [hdh, hsh]; simp only [run_freeze, Result.andThen_ok]
 ·show w.heap.size < ((w.drew.alloc (.cells xs e)).freeze ⟨w.heap.size, xs.size, none⟩ 1).heap.size; simp only [World.freeze]; rw [if_neg (by omega)]; rw [Array.size_modify, hhp]; omega
 ·have hj' : j < s.data.size := hj; have e1 : (bytes s).getD j 0 = s.data[j] := by
   simp only [bytes, List.getD_eq_getElem?_getD, Array.getElem?_toList, Array.getElem?_eq_getElem hj', Option.getD_some]
  rw [e1]; simp only [xs]; rw [Array.getElem?_append_left (by simpa using hj'), Array.getElem?_map, Array.getElem?_eq_getElem hj']; rfl
@[go_sem] theorem Wt {K : A2 → Prop} {J : Exit → A2 → Prop} : Kx K J .normal tm H = K H := rfl
@[go_sem] theorem ah {K : A2 → Prop} {J : Exit → A2 → Prop} : Kx K J .ret tm H = J .ret H := rfl
@[go_sem] theorem YK {K : A2 → Prop} {J : Exit → A2 → Prop} {id : Nat} : Kx K J (.exit id) tm H = J (.exit id) H := rfl
section
variable {l : Nat} {J : Tm → A2 → Prop} {Q : Exit → Tm → A2 → Prop}
@[go_sem] theorem X3 : Gg l J Q .normal tm H = Q .normal tm H := rfl
@[go_sem] theorem gm : Gg l J Q .ret tm H = Q .ret tm H := rfl
@[go_sem] theorem aj {id : Nat} : Gg l J Q (.exit id) tm H = Q (.exit id) tm H := rfl
@[go_sem] theorem ak {l' : Nat} : Gg l J Q (.goto l') tm H = (l' = l ∧ J tm H) := rfl
@[go_sem] theorem YL {c : List PanicEntry} : Gg l J Q (.panic c) tm H = Q (.panic c) tm H := rfl
end
theorem Gj {o : Oper} {K : IV → A2 → Prop} {Qp : List PanicEntry → A2 → Prop} {ta tb e : TypeId} {d : TypeDesc} {x : Operand} {s : ByteArray} (ho : o.op = .convert ta tb x) (hok : okO N o = true) (ha : P.underlying ta = some d)
    (hb : P.underlying tb = some (.slice e)) (he : P.underlying e = some (.int .u8)) (hx : ev tm x = .v (.string s)) (hs : (bytes s).length ≤ Cm) (hK : K (.sl 1 (byt (bytes s))) H) : AD P N o tm H K Qp := by
 obtain ⟨dst, op, type, pos, after, guard⟩ := o; simp only at ho; subst ho; refine B3 (by simp) fun w g a sm r hN => ?_; subst hN; have rx := r.ev (x := x) (by simp [okO, Op.operands] at hok; exact hok.1); rw [hx] at rx; have hxe := rx.v_eq; obtain ⟨w', cap, xs, f, h1, h2, h3, h4, h5, h6, h7, h8, h9, h10, h11⟩ := Jq (P := P) (e := e) s w; have hg := sm.grow (w' := w') (Nat.le_of_lt h3) h4 h5 h6 h7; have hsz := Bx s; have hcs : Br w g xs ((bytes s).map fun b => .v (.int .u8 b.toNat)) := by
  refine ⟨by rw [List.length_map, ← hsz, h9]; exact h2, fun j c hj => ?_⟩; have hjl : j < (bytes s).length := by
   have := (List.getElem?_eq_some_iff.1 hj).1; simpa using this
  have := h11 j (by rw [hsz]; exact hjl); refine ⟨_, this, rfl, ?_⟩; simp only [List.getElem?_map, Option.map_eq_some_iff] at hj; obtain ⟨b, hb', rfl⟩ := hj; rw [List.getD_eq_getElem?_getD, hb']; exact .v _
 have hR := Ki hg.2 (sz := 1) (n := s.size) (cap := cap) h8 (sm.fresh (Nat.le_refl _)) hcs (by rw [List.length_map, hsz]; omega) h2 (by rw [hsz]; exact hs); rw [DK (by rw [List.length_map, hsz]), List.map_map] at hR; refine ⟨_, w', g, H, _, .inl ?_, hg.2, hg.1, hR, hK⟩; simp [execOp, convert, hxe, run_underlying ha, run_underlying hb, run_underlying he, h1]
end Go.Idl
namespace Go.Idl
open Go Go.Proofs.Tryz
def BB (f : Int) (x : UInt8) : Bool := !(decide (x.toNat < 32) && (!decide (x.toNat = 10) || !decide (f = 5)))
def Be (f : Int) (s : List UInt8) : Bool := s.all (BB f) && decide (1 ≤ s.length) && decide (s.length ≤ 200)
set_option pp.deepTerms false in
set_option maxRecDepth 4000 in
theorem X4 {H : A2} {K : Aw → A2 → Prop} (f : Int) (s : List UInt8) (hs : s.length ≤ 1000000) (hK : K (.ret (.v (.bool (Be f s)))) H) : Ac prog 125 [.v (str s), .cp [.v (.int .i64 f)]] H K := by
 refine AP (N := 32) func125 (by kernel_rfl) rfl (by kernel_rfl) (by kernel_rfl) fun hw hbd hnb => ?_; simp (maxSteps := 1000000) (disch := omega) [go_sem]; refine Gj rfl (by kernel_rfl) underlying9 underlying131 underlying5 (by simp [go_sem]; rfl) (by rw [Ca]; simp only [Cm]; omega) ?_; simp (maxSteps := 1000000) (disch := omega) [go_sem, byt]; refine Bk (fun tm' H' => H' = H ∧ ∃ i : Nat, tm' 0 = .v (str s) ∧ tm' 1 = .cp [.v (.int .i64 f)] ∧ tm' 7 = .sl 1 (s.map fun b => [.v (.int .u8 b.toNat)]) ∧ tm' 8 = .v (.int .i64 s.length) ∧ tm' 9 = .v (.int .i64 i) ∧ i ≤ s.length ∧ ∀ x ∈ s.take i, BB f x = true) (fun tm' _ => s.length - (intOf (tm' 9)).toNat) (.same ?_) ?_
 ·exact ⟨rfl, 0, by simp [go_sem], by simp [go_sem], by simp [go_sem], by simp [go_sem], by simp [go_sem], by omega, by simp⟩
 rintro I' μ' hI hμ tm' H' ⟨rfl, i, h0, h1, h7, h8, h9, hi, hr⟩
 refine AF _ (by kernel_rfl) _ _ _ ?_; simp (maxSteps := 1000000) (disch := omega) [go_sem, h0, h1, h7, h8, h9]; refine BM ?_ ?_ <;> intro hc <;> (try simp at hc)
 ·simp (maxSteps := 1000000) (disch := omega) [go_sem, h0, h1, h7, h8, h9]; have fin : BB f s[i] = false → Be f s = false := by
   intro h; have : s.all (BB f) = false := by
    rw [Bool.eq_false_iff]; intro h'; rw [List.all_eq_true.1 h' s[i] (List.getElem_mem _)] at h; cases h
   simp [Be, this]
  have go : BB f s[i] = true → ∀ x ∈ s.take (i + 1), BB f x = true := by
   intro h x hx; rw [List.take_succ_eq_append_getElem hc, List.mem_append] at hx; rcases hx with hx | hx
   ·exact hr x hx
   ·simp at hx; subst hx; exact h
  (first | refine Et ?_ ?_ | refine FM ?_ ?_) <;> intro g1 <;> (try simp at g1)
  ·simp (maxSteps := 1000000) (disch := omega) [go_sem, h0, h1, h7, h8, h9]; have g1' : s[i].toNat < 32 := by omega
   (first | refine Et ?_ ?_ | refine FM ?_ ?_) <;> intro g2 <;> (try simp at g2)
   ·simp (maxSteps := 1000000) (disch := omega) [go_sem, h0, h1, h7, h8, h9]
    rw [fin (by have : ¬ s[i].toNat = 10 := by omega
                simp [BB, g1', this])] at hK
    exact AN (.refl hw) (.v _) hK
   ·simp (maxSteps := 1000000) (disch := omega) [go_sem, h0, h1, h7, h8, h9]; have g2' : s[i].toNat = 10 := by omega
    refine BM ?_ ?_ <;> intro g3 <;> (try simp at g3)
    ·simp (maxSteps := 1000000) (disch := omega) [go_sem, h0, h1, h7, h8, h9]; rw [fin (by simp [BB, g2', g3])] at hK; exact AN (.refl hw) (.v _) hK
    ·simp (maxSteps := 1000000) (disch := omega) [go_sem, h0, h1, h7, h8, h9]; exact .of hI hμ ⟨rfl, i + 1, by simp [go_sem, h0], by simp [go_sem, h1], by simp [go_sem, h7], by simp [go_sem, h8], by simp [go_sem], by omega, go (by simp [BB, g2', g3])⟩ (by simp [go_sem, h9]; omega)
  ·simp (maxSteps := 1000000) (disch := omega) [go_sem, h0, h1, h7, h8, h9]; have g1' : ¬ s[i].toNat < 32 := by omega
   exact .of hI hμ ⟨rfl, i + 1, by simp [go_sem, h0], by simp [go_sem, h1], by simp [go_sem, h7], by simp [go_sem, h8], by simp [go_sem], by omega, go (by simp [BB, g1'])⟩ (by simp [go_sem, h9]; omega)
 ·simp (maxSteps := 1000000) (disch := omega) [go_sem, h0, h1, h7, h8, h9]; have hall : s.all (BB f) = true := by
   rw [List.take_of_length_le (by omega)] at hr; exact List.all_eq_true.2 hr
  (first | refine Et ?_ ?_ | refine FM ?_ ?_) <;> intro g1 <;> (try simp at g1)
  ·simp (maxSteps := 1000000) (disch := omega) [go_sem, h0, h1, h7, h8, h9]; have e : Be f s = decide ((s.length : Int) ≤ 200) := by
    have : 1 ≤ s.length := by omega
    simp [Be, hall, this]; omega
   rw [e] at hK; exact AN (.refl hw) (.v _) hK
  ·simp (maxSteps := 1000000) (disch := omega) [go_sem, h0, h1, h7, h8, h9]; have e : Be f s = false := by
    have : ¬ 1 ≤ s.length := by omega
    simp [Be, this]
   rw [e] at hK; exact AN (.refl hw) (.v _) hK
end Go.Idl
namespace Go.Idl
open Go Go.Proofs.Tryz
theorem PX {H : A2} {K : Aw → A2 → Prop} (f : Int) (s : List UInt8) (k : Nat) (hs : s.length ≤ 1000000) (ho : H.obj k = some (.cells [.fn (.func 125) [] [.cp [.v (.int .i64 f)]]])) (hK : K (.ret (.v (.bool (!Be f s)))) H) : Ac prog 88 [.v (str s), .p k 0] H K := by
 refine AP (N := 8) func88 (by kernel_rfl) rfl (by kernel_rfl) (by kernel_rfl) fun hw hbd hnb => ?_; simp (maxSteps := 1000000) (disch := omega) [go_sem, ho]; refine X4 f s hs ?_; simp (maxSteps := 1000000) (disch := omega) [go_sem]; exact AN (.refl hw) (.v _) hK
def Gk (f : Int) : Int := if 6 ≤ f then 8 else 1
def BD (f : Int) (l : List (List UInt8)) : Bool := decide ((l.length : Int) ≤ Gk f) && !(l.any fun s => !Be f s) && B5 l
def AH (c : List (List (List UInt8))) : Bool := (c.zipIdx.all fun p => BD p.2 p.1) && decide ((c.getD 0 []).length = 1)
set_option pp.deepTerms false in
set_option maxRecDepth 4000 in
theorem R5 {H : A2} {K : Aw → A2 → Prop} (c : List (List (List UInt8))) (hc : c.length = 8) (hs : ∀ l, l ∈ c → l.length ≤ 1000000 ∧ ∀ s, s ∈ l → s.length ≤ 1000000) (hK : K (.ret (.v (.int .i64 (if AH c = true then 0 else 2)))) H) : Ac prog 56 [cS c] H K := by
 have ht : List.take 8 (c.map sS) = c.map sS := by rw [List.take_of_length_le]; simp [hc]
 refine AP (N := 31) func56 (by kernel_rfl) rfl (by kernel_rfl) (by kernel_rfl) fun hw hbd hnb => ?_; simp (maxSteps := 1000000) (disch := omega) [go_sem, hc, ht]; refine KF c hc ?_; simp (maxSteps := 1000000) (disch := omega) [go_sem, hc, ht]; refine CV (gf := 150) (cap := [.cp [.sl 1 ((c.map sS).map fun x => [x])]]) (by kernel_rfl) (by simp [go_sem]) (U6 (c.map sS))
  (fun i Hu => Hu.obj H.next = some (.cells (c.map sS)) ∧ (∃ x, Hu.obj (H.next + 1) = some (.cells [x])) ∧ Ext H Hu ∧ H.next + 2 ≤ Hu.next ∧ ∀ p, p ∈ c.zipIdx.take i → BD p.2 p.1 = true) ?_ (by simp) ?_ ?_ ?_
 ·exact ⟨by simp [go_sem], ⟨_, by simp [go_sem]; rfl⟩, (Ext.refl hw).new _ |>.new _, by simp [go_sem], by simp⟩
 ·intro args h; obtain ⟨i, hi⟩ := List.getElem?_of_mem h; simp only [ixs, List.getElem?_map, Option.map_eq_some_iff] at hi; obtain ⟨p, _, rfl⟩ := hi; rfl
 ·rintro i args Hu hx ⟨h1, ⟨x2, h2⟩, h3, h4, h5⟩
  have hi : i < c.length := by
   have := (List.getElem?_eq_some_iff.1 hx).1; simpa [CL] using this
  rw [JM (by simpa using hi)] at hx; cases hx; have hsi := hs c[i] (List.getElem_mem _); refine AF _ (by kernel_rfl) _ _ _ ?_; simp (maxSteps := 1000000) (disch := omega) [go_sem, BV, hc]; refine AF _ (by kernel_rfl) _ _ _ ?_; simp (maxSteps := 1000000) (disch := omega) [go_sem, BV, hc, h1, h2]; refine X0 _ ?_; simp (maxSteps := 1000000) (disch := omega) [go_sem, BV, hc, h1, h2]; refine Z_ _ ?_; simp (maxSteps := 1000000) (disch := omega) [go_sem, BV, hc, h1, h2]; have n1 : ¬ H.next = Hu.next := by omega
  have n2 : ¬ H.next = Hu.next + 1 := by omega
  have bad : BD i c[i] = false → AH c = false := by
   intro h; have : (c.zipIdx.all fun p => BD p.2 p.1) = false := by
    rw [Bool.eq_false_iff]; intro h'; have hm : (c[i], i) ∈ c.zipIdx := by
     rw [List.mem_zipIdx_iff_getElem?]; simp [hi]
    have := List.all_eq_true.1 h' _ hm; rw [h] at this; cases this
   rw [AH, this, Bool.false_and]
  have fin : ∀ J : A2, AH c = false → Ext H J → Km (.v (.int .i64 2)) H K J := by
   intro J h he; rw [h] at hK; exact AN he (.v _) hK
  (first | refine Et ?_ ?_ | refine FM ?_ ?_) <;> intro g1 <;> (try simp at g1)
  ·simp (maxSteps := 1000000) (disch := omega) [go_sem, BV, hc, h1, h2, n1, n2]; have hb : BD i c[i] = false := by
    have : ¬ ((c[i].length : Int) ≤ Gk i) := by simp only [Gk]; omega
    simp [BD, this]
   exact fin _ (bad hb) (((h3.skip.new _).set (by omega) _).set (by omega) _).skip
  ·simp (maxSteps := 1000000) (disch := omega) [go_sem, BV, hc, h1, h2, n1, n2]; refine PW c[i] hsi.1 _ _ (fun s => !Be i s) (fun s hs' K' hK' => PX i s _ (hsi.2 s hs') (by simp [go_sem]) hK') ?_; simp (maxSteps := 1000000) (disch := omega) [go_sem, BV, hc, h1, h2, n1, n2]
   (first | refine Et ?_ ?_ | refine FM ?_ ?_) <;> intro g2 <;> (try simp at g2)
   ·simp (maxSteps := 1000000) (disch := omega) [go_sem, BV, hc, h1, h2, n1, n2]; have hb : BD i c[i] = false := by
     have e : (c[i].any fun s => !Be i s) = true := by simpa using g2
     simp [BD, e]
    exact fin _ (bad hb) (((h3.skip.new _).set (by omega) _).set (by omega) _).skip
   ·simp (maxSteps := 1000000) (disch := omega) [go_sem, BV, hc, h1, h2, n1, n2]; refine X1 c[i] hsi.1 ?_; simp (maxSteps := 1000000) (disch := omega) [go_sem, BV, hc, h1, h2, n1, n2]; refine BM ?_ ?_ <;> intro g3 <;> (try simp at g3)
    ·simp (maxSteps := 1000000) (disch := omega) [go_sem, BV, hc, h1, h2, n1, n2]; have hb : BD i c[i] = false := by simp [BD, g3]
     exact fin _ (bad hb) (((h3.skip.new _).set (by omega) _).set (by omega) _).skip
    ·simp (maxSteps := 1000000) (disch := omega) [go_sem, BV, hc, h1, h2, n1, n2]; refine ⟨(h3.skip.new _).set (by omega) _, by omega, fun a b hp => ?_⟩; rw [List.take_succ_eq_append_getElem (by simpa using hi), List.mem_append] at hp; rcases hp with hp | hp
     ·exact h5 (a, b) hp
     ·simp at hp; obtain ⟨rfl, rfl⟩ := hp; simp [BD, g3]; exact ⟨by simp only [Gk]; omega, g2⟩
 ·rintro Hu ⟨h1, ⟨x2, h2⟩, h3, h4, h5⟩
  simp (maxSteps := 1000000) (disch := omega) [go_sem, hc, h1, h2]; have hall : (c.zipIdx.all fun p => BD p.2 p.1) = true := by
   rw [List.all_eq_true]; intro p hp; refine h5 p ?_; rw [CL, List.length_map, List.take_of_length_le (by simp)]; exact hp
  have e0 : AH c = decide (c[0].length = 1) := by
   have : c.getD 0 [] = c[0] := by simp [hc]
   simp only [AH, hall, Bool.true_and, this]
  rw [e0] at hK; refine BM ?_ ?_ <;> intro g1 <;> (try simp at g1)
  ·simp (maxSteps := 1000000) (disch := omega) [go_sem, hc, h1, h2]; have : ¬ c[0].length = 1 := by omega
   simp [this] at hK; exact AN ((h3.skip).set (by omega) _) (.v _) hK
  ·simp (maxSteps := 1000000) (disch := omega) [go_sem, hc, h1, h2]; have : c[0].length = 1 := by omega
   simp [this] at hK; exact AN ((h3.skip).set (by omega) _) (.v _) hK
end Go.Idl
namespace Go.Idl
open Go Go.Proofs.Tryz
def BS : List (List (List UInt8)) := List.replicate 8 []
theorem Fz.U9 {H J : A2} (n : Nat) : Fz H J (.ag (List.replicate n (.v (.slice none 0 0)))) (.ag (List.replicate n (.sl 1 []))) := .ag _ _ (by simp) fun j c c' h1 h2 => by
  rw [List.eq_of_mem_replicate (List.mem_of_getElem? h1), List.eq_of_mem_replicate (List.mem_of_getElem? h2)]
  exact .wk _ _ (.nil 1) (LZ.2 (by simp))
theorem KI : cS BS = .ag (List.replicate 8 (.sl 1 [])) := by simp [cS, BS, sS]
end Go.Idl
namespace Go.Idl
open Go Go.Proofs.Tryz
end Go.Idl
namespace Go.Idl
open Go Go.Proofs.Tryz
def nS (l : List Nat) : List (List IV) := l.map fun (n : Nat) => [.v (.int .i64 n)]
def Cc (a b : List (List (List UInt8))) (n : Nat) : List Nat := (List.range n).filter fun i => !decide (a.getD i [] = b.getD i [])
theorem Ox (a b : List (List (List UInt8))) (n : Nat) : Cc a b (n + 1) = Cc a b n ++ (if a.getD n [] = b.getD n [] then [] else [n]) := by
 simp only [Cc, List.range_succ, List.filter_append, List.filter_cons, List.filter_nil]; by_cases h : a.getD n [] = b.getD n []
 ·simp [h]
 ·simp [h]
set_option pp.deepTerms false in
set_option maxRecDepth 4000 in
theorem Ua {H : A2} {K : Aw → A2 → Prop} (a b : List (List (List UInt8))) (ha : a.length = 8) (hb : b.length = 8) (hK : K (.ret (.sl 1 (nS (Cc a b 8)))) H) : Ac prog 77 [cS a, cS b] H K := by
 have hta : List.take 8 (a.map sS) = a.map sS := by rw [List.take_of_length_le]; simp [ha]
 have htb : List.take 8 (b.map sS) = b.map sS := by rw [List.take_of_length_le]; simp [hb]
 refine AP (N := 24) func77 (by kernel_rfl) rfl (by kernel_rfl) (by kernel_rfl) fun hw hbd hnb => ?_; simp (maxSteps := 1000000) (disch := omega) [go_sem, ha, hb, hta, htb]
 refine Bk (fun tm' H' => ∃ i : Nat, tm' 2 = .p H.next 0 ∧ tm' 3 = .p (H.next + 1) 0 ∧ tm' 6 = .v (.int .i64 i) ∧ i ≤ 8 ∧ H'.obj H.next = some (.cells (a.map sS)) ∧ H'.obj (H.next + 1) = some (.cells (b.map sS)) ∧ Ext H H' ∧ H.next + 2 ≤ H'.next ∧
   ((tm' 5 = .v (.slice none 0 0) ∧ Cc a b i = []) ∨ ∃ k, H.next + 2 ≤ k ∧ k < H'.next ∧ tm' 5 = .os k (Cc a b i).length ∧ H'.obj k = some (.row 1 (nS (Cc a b i))))) (fun tm' _ => 8 - (intOf (tm' 6)).toNat) (.same ?_) ?_
 ·exact ⟨0, by simp [go_sem], by simp [go_sem], by simp [go_sem], by omega, by simp [go_sem], by simp [go_sem], (Ext.refl hw).new _ |>.new _, by simp [go_sem], .inl ⟨by simp [go_sem], rfl⟩⟩
 rintro I' μ' hI hμ tm' H' ⟨i, h2, h3, h6, hi, o1, o2, he, hn, hd⟩
 refine AF _ (by kernel_rfl) _ _ _ ?_; simp (maxSteps := 1000000) (disch := omega) [go_sem, h2, h3, h6]; refine BM ?_ ?_ <;> intro hc1 <;> (try simp at hc1)
 ·have hia : i < a.length := by omega
  have hib : i < b.length := by omega
  simp (maxSteps := 1000000) (disch := omega) [go_sem, h2, h3, h6, ha, hb]; refine By [0, 1, 2, 3, 4, 5, 6, 7] (by kernel_rfl) (by kernel_rfl) (fun _ _ _ _ h => h) ?_; simp (maxSteps := 1000000) (disch := omega) [go_sem, h2, h3, h6, ha, hb, o1, o2]; refine ZW a[i] b[i] fun r hr => ?_; simp (maxSteps := 1000000) (disch := omega) [go_sem, h2, h3, h6, ha, hb, o1, o2]; have hs := Ox a b i; have ga : a.getD i [] = a[i] := by simp [hia]
  have gb : b.getD i [] = b[i] := by simp [hib]
  rw [ga, gb] at hs; have n1 : ¬ H.next = H'.next := by omega
  have n2 : ¬ H.next + 1 = H'.next := by omega
  refine BM ?_ ?_ <;> intro hc2 <;> (try simp at hc2)
  ·have hne : ¬ a[i] = b[i] := by rw [hc2] at hr; simpa using hr.symm
   rw [if_neg hne] at hs; rcases hd with ⟨h5, hd⟩ | ⟨k, hk1, hk2, h5, hd⟩
   ·simp (maxSteps := 1000000) (disch := omega) [go_sem, h2, h3, h6, h5, ha, hb, o1, o2]; rw [hd, List.nil_append] at hs; refine .of hI hμ ⟨i + 1, by simp [go_sem, h2], by simp [go_sem, h3], by simp [go_sem], by omega, by simp [go_sem, n1, o1], by simp [go_sem, n2, o2], he.new _, by simp [go_sem]; omega, .inr ⟨H'.next, hn, by simp [go_sem], ?_, ?_⟩⟩ (by simp [go_sem, h6]; omega)
    ·simp [go_sem, hs]
    ·simp [go_sem, hs, nS]
   ·have n3 : ¬ H.next = k := by omega
    have n4 : ¬ H.next + 1 = k := by omega
    have hl : (Cc a b i).length ≤ 8 := by
     simp only [Cc]; exact Nat.le_trans (List.length_filter_le _ _) (by simp; omega)
    simp (maxSteps := 1000000) (disch := omega) [go_sem, h2, h3, h6, h5, ha, hb, o1, o2, hd, nS]; refine .of hI hμ ⟨i + 1, by simp [go_sem, h2], by simp [go_sem, h3], by simp [go_sem], by omega, by simp [go_sem, n3, o1], by simp [go_sem, n4, o2], he.set (by omega) _, by simp [go_sem]; omega, .inr ⟨k, hk1, by simp [go_sem]; omega, ?_, ?_⟩⟩ (by simp [go_sem, h6]; omega)
    ·simp [go_sem, hs]
    ·simp [go_sem, hs, nS]
  ·have heq : a[i] = b[i] := by rw [hc2] at hr; simpa using hr.symm
   rw [if_pos heq, List.append_nil] at hs; simp (maxSteps := 1000000) (disch := omega) [go_sem, h2, h3, h6, ha, hb, o1, o2]; refine .of hI hμ ⟨i + 1, by simp [go_sem, h2], by simp [go_sem, h3], by simp [go_sem], by omega, o1, o2, he, hn, ?_⟩ (by simp [go_sem, h6]; omega); rw [hs]; rcases hd with ⟨h5, hd⟩ | ⟨k, hk1, hk2, h5, hd⟩
   ·exact .inl ⟨by simp [go_sem, h5], hd⟩
   ·exact .inr ⟨k, hk1, hk2, by simp [go_sem, h5], hd⟩
 ·rcases hd with ⟨h5, hd⟩ | ⟨k, hk1, hk2, h5, hd⟩
  ·simp (maxSteps := 1000000) (disch := omega) [go_sem, h2, h3, h6, h5]; have e : i = 8 := by omega
   subst e; rw [hd] at hK; exact BA (J := H) he.Cy (.wk _ _ (.nil 1) (LZ.2 (by simp [nS]))) hK
  ·simp (maxSteps := 1000000) (disch := omega) [go_sem, h2, h3, h6, h5]; have e : i = 8 := by omega
   subst e; refine BA (J := H) he.Cy (.row (hw k (by omega)) hd (by simp [nS]) (LZ.2 fun x hx y hy => ?_)) hK; obtain ⟨n, _, rfl⟩ := List.mem_map.1 hx; simp at hy; subst hy; exact .v _
theorem PY {a b : List (List (List UInt8))} (ha : a.length = 8) (hb : b.length = 8) : Cc a b 8 = [] ↔ a = b := by
 simp only [Cc, List.filter_eq_nil_iff, List.mem_range]; constructor
 ·intro h; refine List.ext_getElem (by omega) fun i h1 h2 => ?_; have := h i (by omega); simpa [h1, h2] using this
 ·rintro rfl i _
  simp
theorem an {H : A2} {K : Aw → A2 → Prop} (a b : List (List (List UInt8))) (ha : a.length = 8) (hb : b.length = 8) (hK : K (.ret (.v (.bool (decide (a = b))))) H) : Ac prog 48 [cS a, cS b] H K := by
 have hta : List.take 8 (a.map sS) = a.map sS := by rw [List.take_of_length_le]; simp [ha]
 have htb : List.take 8 (b.map sS) = b.map sS := by rw [List.take_of_length_le]; simp [hb]
 refine AP (N := 10) func48 (by kernel_rfl) rfl (by kernel_rfl) (by kernel_rfl) fun hw hbd hnb => ?_; simp (maxSteps := 1000000) (disch := omega) [go_sem, ha, hb, hta, htb]; refine Ua a b ha hb ?_; simp (maxSteps := 1000000) (disch := omega) [go_sem, nS]; have e : decide (Cc a b 8 = []) = decide (a = b) := by simp only [PY ha hb]
 rw [← e] at hK; exact AN ((Ext.refl hw).new _ |>.new _) (.v _) hK
end Go.Idl
namespace Go.Idl
open Go Go.RowKit Go.Proofs Go.Shelf
variable {P : Program} {N : Nat} {tm : Tm} {H : A2}
def Bld (T e : TypeId) (H : A2) (n0 k : Nat) (l : List UInt8) : Prop :=
  n0 ≤ k ∧ ∃ a buf, H.obj k = some (.ty T (.cells [a, buf])) ∧ (a = .v (.pointer none) ∨ a = .p k 0) ∧
    ((l = [] ∧ buf = .v (.slice none 0 0)) ∨ ∃ kb, n0 ≤ kb ∧ kb ≠ k ∧ buf = .os kb l.length ∧ H.obj kb = some (.ty e (.row 1 (byt l))))
def nv : HO → Bool
  | .ty _ (.row _ _) => true
  | _ => false
structure M5 (H J : A2) (n0 k : Nat) : Prop where
  le : H.next ≤ J.next
  keep : ∀ i o, H.obj i = some o → i ≠ k → (i < n0 ∨ nv o = false) → J.obj i = some o
  sn : J.sn = H.sn
theorem args1 {w : World} {g : Gs} {vs : Array Value} {i : IV} (rl : RL w g vs [i]) : ∃ x, vs = #[x] ∧ R w g x i := by
 obtain ⟨h1, h2⟩ := rl; have hs : vs.size = 1 := h1; refine ⟨vs[0], ?_, h2 0 _ _ (Array.getElem?_eq_getElem (by omega)) rfl⟩; apply Array.ext
 ·simpa using hs
 ·intro j h3 h4; have e : j = 0 := by omega
  subst e; rfl
theorem IF {f : FuncId} {T : TypeId} (hbd : Bl P f = true)
    (hfresh : ∀ (b : Nat) (w : World), w.cell? ⟨b, 0, none⟩ = some (.pointer none) → w.shape? b = some (T, 2) → w.frozen? ⟨b, 0, none⟩ = false → Calls P f #[.pointer (some ⟨b, 0, none⟩)] w fun e w' => e = .returned (.tuple #[]) ∧ w' = w.setCell ⟨b, 0, none⟩ (.pointer (some ⟨b, 0, none⟩)))
    (hused : ∀ (b : Nat) (w : World), w.cell? ⟨b, 0, none⟩ = some (.pointer (some ⟨b, 0, none⟩)) → Calls P f #[.pointer (some ⟨b, 0, none⟩)] w fun e w' => e = .returned (.tuple #[]) ∧ w' = w)
    {K : Aw → A2 → Prop} (k : Nat) (a buf : IV) (ho : H.obj k = some (.ty T (.cells [a, buf])))
    (ha : a = .v (.pointer none) ∨ a = .p k 0) (hK : K (.ret (.tu [])) (H.set k (.ty T (.cells [.p k 0, buf])))) : Ac P f [.p k 0] H K := by
 refine ⟨hbd, fun w g vs s rl => ?_⟩; obtain ⟨x, rfl, hx⟩ := args1 rl; obtain ⟨b, xs, hmu, rfl, hb, hsz, hc⟩ := s.QX ho hx; have hsz2 : xs.size = 2 := hsz; have hlt := B8 hb; obtain ⟨x0, hx0, hx0', hr0⟩ := hc.2 0 a rfl; obtain ⟨x1, hx1, hx1', hr1⟩ := hc.2 1 buf rfl; have hcell : w.cell? ⟨b, 0, none⟩ = some x0 := by simp [World.cell?, hb, hx0]
 have hsh : g.sh k = some .fx := by rw [s.sh, A2.sh, ho]; rfl
 have hk1 : k < g.nx := by rw [s.nx]; exact s.lt k (by rw [ho]; rfl)
 have hp0 : ∀ w', R w' g (.pointer (some ⟨b, 0, none⟩)) (.p k 0) := fun w' => .p k 0 _ hk1 ⟨_, rfl⟩ fun _ _ _ => ⟨b, hmu, rfl⟩; rcases ha with rfl | rfl
 ·rw [hr0.v_eq] at hcell; have := hfresh b w hcell (by simp [World.shape?, hb, hsz2]) (by simp [World.frozen?, hb]); refine this.mono ?_
  rintro e w' ⟨rfl, rfl⟩
  rw [EX hb]; have hp := s.put (w' := w.putObj b (.cells (xs.setIfInBounds 0 (.pointer (some ⟨b, 0, none⟩))) T (0, 0))) k b (.ty T (.cells [.v (.pointer none), buf])) (.ty T (.cells [.p k 0, buf])) ho rfl (by rw [hmu]; rfl) (by simp) rfl rfl rfl
   (fun i hi => World.putObj_heap_other hi)
   (fun m => ⟨⟨b, _, T, (0, 0), hmu, by rw [Bc _ _ _ hlt, if_pos rfl], C2 _, by simp [hsz2], fun j c hj => by
       match j, hj with
       | 0, hj => simp at hj; subst hj; exact ⟨.pointer (some ⟨b, 0, none⟩), by simp [hsz2], rfl, hp0 _⟩
       | 1, hj => simp at hj; subst hj; exact ⟨x1, by rw [Array.getElem?_setIfInBounds_ne (by omega)]; exact hx1, hx1', hr1.mono m⟩
       | j + 2, hj => simp at hj⟩, fun b' hb' => by
     rw [hmu] at hb'
     simp only [blk, Option.some.injEq] at hb'
     subst hb'
     exact ⟨_, by rw [Bc _ _ _ hlt, if_pos rfl], fun cs' e => by cases e; simp [hsz2]⟩⟩)
  exact ⟨.ret (.tu []), g, _, hp.2, hp.1, .ret _ _ (.tu _ _ rfl (by simp)), hK⟩
 ·have hxx : x0 = .pointer (some ⟨b, 0, none⟩) := by
   obtain ⟨_, _, hq⟩ := hr0.O0; obtain ⟨b', q1, q2⟩ := hq .fx hsh rfl; rw [hmu] at q1; cases q1; exact q2
  rw [hxx] at hcell; have := hused b w hcell; refine this.mono ?_
  rintro e w' ⟨rfl, rfl⟩
  have hset : H.set k (.ty T (.cells [.p k 0, buf])) = H := by
   unfold A2.set; congr 1; funext i; split
   ·rename_i e; subst e; exact ho.symm
   ·rfl
  rw [hset] at hK; exact ⟨.ret (.tu []), g, H, .refl _ _, s, .ret _ _ (.tu _ _ rfl (by simp)), hK⟩
set_option maxHeartbeats 2000000 in
set_option maxRecDepth 100000 in
/-- The text of a builder that holds a byte, with the world behind it. -/
theorem Oy {ρ : Go.Shelf.Ren} (L : Lays.n169 P ρ) (X : Builder.Extra P ρ) (b g cap : Nat) (p : Value) (cur : Array Value) (l : List UInt8) (w : World) (hbk : w.heap[b]? = some (.cells #[p, .slice (some ⟨g, 0, none⟩) l.length cap] (ρ.t 72) (0, 0))) (hg : w.heap[g]? = some (.cells cur (ρ.t 5) (0, 0)))
    (h0 : l ≠ []) (hnc : l.length ≤ cap) (hcs : l.length ≤ cur.size) (hcm : l.length ≤ 9223372036854775807) (hc : ∀ (j : Nat) (x : UInt8), l[j]? = some x → cur[j]? = some (Value.int .u8 x.toNat)) :
    Calls P (ρ.f 169) #[.pointer (some ⟨b, 0, none⟩)] w fun e w' => e = .returned (.string ⟨l.toArray⟩) ∧ w' = w.drew.freeze ⟨g, 0, none⟩ l.length := by
 have hl0 : l.length ≠ 0 := by simpa using h0
 have c1 : w.drew.cell? ⟨b, 1, none⟩ = some (.slice (some ⟨g, 0, none⟩) l.length cap) := by
  have : w.drew.heap[b]? = some (.cells #[p, .slice (some ⟨g, 0, none⟩) l.length cap] (ρ.t 72) (0, 0)) := hbk; rw [Lib.cell_of_heap this]; rfl
 have hSD : (Builtin.unsafeSliceData_ #[(ρ.t 37)] (ρ.t 127) #[.slice (some ⟨g, 0, none⟩) l.length cap]).run P w.drew = .ok (.pointer (some ⟨g, 0, none⟩)) w.drew :=
  Lib.run_unsafeSliceData_row _ _ _ _ _ _ (by omega)
 have hUS : (Builtin.unsafeString_ #[(ρ.t 127), (ρ.t 3)] (ρ.t 9) #[.pointer (some ⟨g, 0, none⟩), .int .i64 l.length]).run P w.drew = .ok (.string ⟨l.toArray⟩) (w.drew.freeze ⟨g, 0, none⟩ l.length) := by
  refine Lib.run_unsafeString_row w.drew (ρ.t 127) (ρ.t 3) (ρ.t 9) (ρ.t 5) L.t127 X.cellsByte g cur.size (by have hg' : w.drew.heap[g]? = some (.cells cur (ρ.t 5) (0, 0)) := hg; simp [World.shape?, hg']) l h0 (by omega) (by omega) ?_; intro j x hx; have hg' : w.drew.heap[g]? = some (.cells cur (ρ.t 5) (0, 0)) := hg; have := hc j x hx; rw [addr_add, Nat.zero_add, Lib.cell_of_heap hg']; exact this
 have mixed := L.mixed; have t72 := L.t72; have a72 := L.a72; have z72 := L.z72; have v72 := L.v72; have u72 := run_underlying L.t72; have t70 := L.t70; have a70 := L.a70; have z70 := L.z70; have v70 := L.v70; have u70 := run_underlying L.t70; have t37 := L.t37; have a37 := L.a37; have z37 := L.z37; have v37 := L.v37; have u37 := run_underlying L.t37; have t127 := L.t127; have a127 := L.a127; have z127 := L.z127; have v127 := L.v127; have u127 := run_underlying L.t127; have t3 := L.t3; have a3 := L.a3; have z3 := L.z3; have v3 := L.v3; have u3 := run_underlying L.t3; have t9 := L.t9; have a9 := L.a9; have z9 := L.z9; have v9 := L.v9; have u9 := run_underlying L.t9; have t5 := X.t5; have a5 := X.a5; have z5 := X.z5; have v5 := X.v5; have u5 := run_underlying X.t5
 go_enter L.f169, Body.n169_ntmps ρ
 go_wp2
 go_region_o
 all_goals (go_wp2; go_ret; exact ⟨rfl, rfl⟩)
theorem Sim.Ub {w w' : World} {g : Gs} (s : Sim w g H) {k b : Nat} {o : HO} (hk : H.obj k = some o) (hb : blk (g.mu k) = some b) (size : w'.heap.size = w.heap.size) (os : w'.os = w.os) (tape : w'.tape = w.tape) (output : w'.output = w.output)
    (same : ∀ i, i ≠ b → w'.heap[i]? = w.heap[i]?) : Sim w' (g.to (H.del k)) (H.del k) ∧ AI w g w' (g.to (H.del k)) := by
 have hlive : (g.sh k).isSome = true := by rw [s.sh, A2.sh, hk]; rfl
 have hsub : O7 (H.del k) H := fun i o h => by
  simp only [A2.del] at h; split at h
  ·cases h
  ·exact h
 have hs := hsub.sh s; have m : AI w g w' (g.to (H.del k)) := by
  refine ⟨by omega, os, tape, output, fun i hi hn => ?_, fun i hi ho => Jh hs ho, rfl, by show g.nx ≤ H.next; rw [s.nx]; exact Nat.le_refl _, ?_, ?_⟩
  ·refine same i fun e => ?_; subst e; exact (s.bk k i hlive hb).1 (hn ⟨k, hlive, hb⟩)
  ·intro i hi hf; exact ⟨hs i _ hf, rfl⟩
  ·intro i m' hi hf; exact ⟨m', hs i _ hf, Nat.le_refl _, fun _ => rfl⟩
 refine ⟨⟨rfl, fun _ => rfl, fun i hi => ?_, fun i b' h1 h2 => ?_, fun i i' b' h1 h2 h3 h4 => ?_, fun i o' ho => ?_, fun b' hb' => by rw [size]; exact s.old b' hb', fun p hp i hi => (s.snap p hp i hi).mono m⟩, m⟩
 ·obtain ⟨o', ho⟩ := Option.isSome_iff_exists.1 hi; exact s.lt i (by rw [hsub i o' ho]; rfl)
 ·obtain ⟨q, hq⟩ := Option.isSome_iff_exists.1 h1; have := s.bk i b' (by rw [hs i q hq]; rfl) h2; exact ⟨this.1, by rw [size]; exact this.2⟩
 ·obtain ⟨q, hq⟩ := Option.isSome_iff_exists.1 h1; obtain ⟨q', hq'⟩ := Option.isSome_iff_exists.1 h2; exact s.inj i i' b' (by rw [hs i q hq]; rfl) (by rw [hs i' q' hq']; rfl) h3 h4
 ·refine (s.obj i o' (hsub i o' ho)).mono m fun b' hb' => same b' fun e => ?_; subst e; have hi : (g.sh i).isSome = true := by rw [s.sh, A2.sh, hsub i o' ho]; rfl
  have := s.inj k i b' hlive hi hb hb'; subst this; simp [A2.del] at ho
theorem KJ {ρ : Go.Shelf.Ren} {f : FuncId} (L : Lays.n169 P ρ) (X : Builder.Extra P ρ) (hf : ρ.f 169 = f) (hbd : Bl P f = true) {K : Aw → A2 → Prop} (n0 k : Nat) (l : List UInt8) (hB : Bld (ρ.t 72) (ρ.t 5) H n0 k l)
    (hK : ∀ J, M5 H J n0 k → K (.ret (.v (str l))) J) : Ac P f [.p k 0] H K := by
 refine ⟨hbd, fun w g vs s rl => ?_⟩; obtain ⟨x, rfl, hx⟩ := args1 rl; obtain ⟨hn0, a, buf, ho, ha, hbuf⟩ := hB; obtain ⟨b, xs, hmu, rfl, hb, hsz, hc⟩ := s.QX ho hx; have hsz2 : xs.size = 2 := hsz; obtain ⟨x0, hx0, hx0', hr0⟩ := hc.2 0 a rfl; obtain ⟨x1, hx1, hx1', hr1⟩ := hc.2 1 buf rfl; have hxs : xs = #[x0, x1] := by
  apply Array.ext
  ·simpa using hsz2
  ·intro i h1 h2
   match i, h2 with
   | 0, _ => have := Array.getElem?_eq_some_iff.1 hx0; simpa using this.2
   | 1, _ => have := Array.getElem?_eq_some_iff.1 hx1; simpa using this.2
   | i + 2, h2 => exact absurd h2 (by simp)
 subst hxs; have same : M5 H H n0 k := ⟨Nat.le_refl _, fun _ _ h _ _ => h, rfl⟩; have empty : l = [] → ∀ w', Below w.heap.size w w' → ∃ ie g' H', AI w g w' g' ∧ Sim w' g' H' ∧ RE w' g' (.returned (.string ⟨#[]⟩)) ie ∧ K ie H' := by
  intro hl w' hbl; subst hl; have hg := s.grow hbl.size hbl.os hbl.tape hbl.output hbl.block; exact ⟨.ret (.v (str [])), g, H, hg.2, hg.1, .ret _ _ (.v _), hK H same⟩
 rcases hbuf with ⟨hl, rfl⟩ | ⟨kb, hkb, hne, rfl, hob⟩
 ·have h1 := hr1.v_eq; subst h1; have := Any.Builder_String_nil L X w.heap.size b x0 w hb; rw [hf] at this; refine this.mono ?_
  rintro e w' ⟨rfl, hbl⟩
  exact empty hl w' hbl
 ·obtain ⟨⟨aa, cap, hm, h2, h3, _, _, h5⟩, hpin⟩ := s.obj kb _ hob; have hlen : (byt l).length = l.length := C3 l; rw [hlen] at hm h2 h3; have hsh : g.sh kb = some (.row l.length) := by rw [s.sh, A2.sh, hob]; simp [HO.sh, hlen]
  have hx1e : x1 = .slice aa l.length cap := by
   cases hr1 with
   | os _ _ _ _ h _ => rw [← hm]; exact (h _ hsh).2 rfl
  subst hx1e; rcases h5 with ⟨rfl, rfl⟩ | ⟨gb, xs, el, fz, rfl, h6, h7, h8, h9⟩
  ·have hl : l = [] := List.eq_nil_of_length_eq_zero (by omega); subst hl; have := Any.Builder_String_nil L X w.heap.size b x0 w hb; rw [hf] at this; refine this.mono ?_
   rintro e w' ⟨rfl, hbl⟩
   exact empty rfl w' hbl
  ·obtain ⟨xs', q1, _⟩ := hpin gb (by rw [hm]; rfl); rw [h6] at q1; cases q1; by_cases hl : l = []
   ·subst hl; by_cases hc0 : cap = 0
    ·subst hc0; have := Any.Builder_String_noroom L X w.heap.size b gb x0 xs w (Nat.le_refl _) hb h6; rw [hf] at this; refine this.mono ?_
     rintro e w' ⟨rfl, hbl⟩
     exact empty rfl w' hbl
    ·have := Any.Builder_String_room L X w.heap.size b gb cap x0 w hc0 hb; rw [hf] at this; refine this.mono ?_
     rintro e w' ⟨rfl, hbl⟩
     exact empty rfl w' hbl
   ·have hfl : (byt l).flatten.length = l.length := by rw [DG]; simp
    have hcs : l.length ≤ xs.size := by have := h9.1; omega
    have := Oy L X b gb cap x0 xs l w hb h6 hl h2 hcs h3 (fun j x hj => by
      obtain ⟨y, q1, _, q3⟩ := h9.2 j (.v (.int .u8 x.toNat)) (by rw [DG]; simp [hj])
      rw [q1, q3.v_eq])
    rw [hf] at this; refine this.mono ?_
    rintro e w' ⟨rfl, rfl⟩
    have hd := s.Ub (w' := w.drew.freeze ⟨gb, 0, none⟩ l.length) hob (b := gb) (by rw [hm]; rfl) (by unfold World.freeze; split <;> simp <;> rfl) (by unfold World.freeze; split <;> rfl) (by unfold World.freeze; split <;> rfl) (by unfold World.freeze; split <;> rfl) (fun i hi => by
      unfold World.freeze
      split
      · rfl
      · simp only
        rw [Array.getElem?_modify, if_neg (fun e => hi e.symm)]
        rfl)
    refine ⟨.ret (.v (str l)), _, _, hd.2, hd.1, .ret _ _ (.v _), hK _ ⟨Nat.le_refl _, fun i o hi hik ht => ?_, rfl⟩⟩; simp only [A2.del]; rw [if_neg]
    ·exact hi
    ·rintro rfl
     rw [hob] at hi; cases hi; rcases ht with ht | ht
     ·omega
     ·cases ht
end Go.Idl
namespace Go.Idl
open Go Go.RowKit
inductive N1 {σ ρ : Type} (step : σ → Option (σ ⊕ ρ)) : σ → ρ → Prop
  | done {s : σ} {r : ρ} (h : step s = some (.inr r)) : N1 step s r
  | more {s s' : σ} {r : ρ} (h : step s = some (.inl s')) (k : N1 step s' r) : N1 step s r
theorem N1.det {σ ρ : Type} {step : σ → Option (σ ⊕ ρ)} {s : σ} {r r' : ρ} (h : N1 step s r) (h' : N1 step s r') : r = r' := by
 induction h with
 | done h => cases h' with
  | done k => rw [h] at k; simpa using k
  | more k _ => rw [h] at k; simp at k
 | more h _ ih => cases h' with
  | done k => rw [h] at k; simp at k
  | more k k' => rw [h] at k; simp at k; subst k; exact ih k'
open Classical in
noncomputable def AE {σ ρ : Type} (step : σ → Option (σ ⊕ ρ)) (s : σ) : Option ρ :=
  if h : ∃ r, N1 step s r then some h.choose else none
theorem CM {σ ρ : Type} {step : σ → Option (σ ⊕ ρ)} {s : σ} {r : ρ} : AE step s = some r ↔ N1 step s r := by
 unfold AE; constructor
 ·intro h; split at h
  ·rename_i h'; simp at h; rw [← h]; exact h'.choose_spec
  ·cases h
 ·intro h; have h' : ∃ r, N1 step s r := ⟨r, h⟩; rw [dif_pos h']; exact congrArg some (h'.choose_spec.det h)
theorem AG {σ ρ : Type} {step : σ → Option (σ ⊕ ρ)} {s : σ} {r : ρ} (h : step s = some (.inr r)) : AE step s = some r := CM.2 (.done h)
theorem AZ {σ ρ : Type} {step : σ → Option (σ ⊕ ρ)} {s s' : σ} (h : step s = some (.inl s')) : AE step s = AE step s' := by
 cases h' : AE step s' with
 | some r => exact CM.2 (.more h (CM.1 h'))
 | none =>
  cases h2 : AE step s with
  | none => rfl
  | some r =>
   have := CM.1 h2; cases this with
   | done k => rw [h] at k; simp at k
   | more k k' => rw [h] at k; simp at k; subst k; rw [CM.2 k'] at h'; cases h'
theorem Eb {σ ρ : Type} {step : σ → Option (σ ⊕ ρ)} {Post : ρ → Prop} (I : σ → Prop) (μ : σ → Nat)
    (h : ∀ s, I s → (∃ s', step s = some (.inl s') ∧ I s' ∧ μ s' < μ s) ∨ ∃ r, step s = some (.inr r) ∧ Post r) {s : σ} (hs : I s) : ∃ r, AE step s = some r ∧ Post r := by
 generalize hn : μ s = n
 induction n using Nat.strongRecOn generalizing s with
 | _ n ih =>
  rcases h s hs with ⟨s', h1, h2, h3⟩ | ⟨r, h1, h2⟩
  ·obtain ⟨r, k1, k2⟩ := ih (μ s') (hn ▸ h3) h2 rfl; exact ⟨r, (AZ h1).trans k1, k2⟩
  ·exact ⟨r, AG h1, h2⟩
def gd {α : Type} (p : Prop) [Decidable p] (x : Option α) : Option α := if p then x else none
theorem Af {α : Type} {p : Prop} [Decidable p] {x : Option α} {r : α} : gd p x = some r ↔ p ∧ x = some r := by
 unfold gd; split <;> simp [*]
theorem A9 {α : Type} {p : Prop} [Decidable p] {x : Option α} (h : p) : gd p x = x := if_pos h
theorem A4 {α β : Type} {x : Option α} {f : α → Option β} {r : β} (h : x.bind f = some r) : ∃ a, x = some a ∧ f a = some r := Option.bind_eq_some_iff.1 h
variable {P : Program} {N : Nat} {tm : Tm} {H : A2} {Q : Exit → Tm → A2 → Prop}
theorem A3 {a b : Code} (h : ∀ cb, cb = b → IWp P N a (CC (fun tm H => IWp P N cb Q tm H) Q) tm H) : IWp P N (.seq a b) Q tm H := MH (h b rfl)
theorem BE {a b : Code} (J : Tm → A2 → Prop) (hJ : ∀ tm H, J tm H → IWp P N b Q tm H) (h : ∀ cb, (∀ tm H, UpI J tm H → IWp P N cb Q tm H) → IWp P N a (CC (fun tm H => IWp P N cb Q tm H) Q) tm H) : IWp P N (.seq a b) Q tm H :=
  MH (h b fun _ _ ⟨_, _, hg, hj⟩ => IWp.gh hg (hJ _ _ hj))
def R6 {σ ρ : Type} (x : σ ⊕ ρ) (I : σ → Tm → A2 → Prop) (tm : Tm) (H : A2) : Prop := ∃ s', x = .inl s' ∧ UpI (I s') tm H
theorem An {σ ρ : Type} {I I' : σ → Tm → A2 → Prop} (hI : I' = I) (s' : σ) (h : UpI (I s') tm H) : R6 (ρ := ρ) (.inl s') I' tm H := by subst hI; exact ⟨s', rfl, h⟩
theorem AA {σ ρ : Type} {c : Code} {step : σ → Option (σ ⊕ ρ)} {r : ρ} (I : σ → Tm → A2 → Prop) {s : σ} (hr : AE step s = some r) (h0 : UpI (I s) tm H)
    (round' : ∀ I', I' = I → ∀ s x tm H, I s tm H → step s = some x → (∀ r', x = .inr r' → r' = r) → IWp P N c (CC (R6 x I') Q) tm H) : IWp P N (.loop c) Q tm H := by
 have round := round' I rfl; clear round'; replace hr := CM.1 hr; obtain ⟨tm1, H1, hg, hI⟩ := h0; refine IWp.gh hg ?_; refine ⟨fun rr B D w0 g0 a0 s0 r0 hN0 hB0 hm0 => ?_⟩; intro b k cs hro hb hrr; have key : ∀ tm H, I s tm H → ∀ (w : World) (g : Gs) (a : Act), AI w0 g0 w g → Sim w g H → RA w g a tm → a.tmps.size = N → Marks rr B D w g a.defers →
  ∃ e a' w', Post rr B D N Q w0 g0 e a' w' ∧ ArrivesIn (Machine.fenced P (FR rr)) P (lone (b.atR a (.code c :: .inLoop c :: k)) cs w) b k cs e a' w' := by
  clear hI hg
  induction hr with
  | @done s r hd =>
   intro tm H hI w g a m s' ra hN hm; obtain ⟨e, a₁, w₁, ⟨tm1, g1, H1, m1, s1, r1, n1, k1, ne, q⟩, harr⟩ := (round s _ tm H hI hd fun r' e => by simpa using e.symm).run rr B D w g a s' ra hN (Nat.le_trans hB0 m.size) hm b (.inLoop c :: k) cs hro hb hrr; have mm := m.tr m1 s0 s'; cases e with
   | normal => obtain ⟨s', hs, _⟩ := q; cases hs
   | exit id => exact ⟨_, a₁, w₁, ⟨tm1, g1, H1, mm, s1, r1, n1, k1, ne, q⟩, .pass (x := .inLoop c) rfl (fun _ _ => .inl (by simp)) harr⟩
   | goto l => exact ⟨_, a₁, w₁, ⟨tm1, g1, H1, mm, s1, r1, n1, k1, ne, q⟩, .pass (x := .inLoop c) rfl (fun _ _ => .inl (by simp)) harr⟩
   | ret => exact ⟨_, a₁, w₁, ⟨tm1, g1, H1, mm, s1, r1, n1, k1, ne, q⟩, .pass (x := .inLoop c) rfl (fun _ _ => .inl (by simp)) harr⟩
   | panic ch => exact ⟨_, a₁, w₁, ⟨tm1, g1, H1, mm, s1, r1, n1, k1, ne, q⟩, .pass (x := .inLoop c) rfl (fun _ _ => .inl (by simp)) harr⟩
   | outgrown => exact absurd rfl ne
  | @more s s2 r hd _ ih =>
   intro tm H hI w g a m s' ra hN hm; obtain ⟨e, a₁, w₁, ⟨tm1, g1, H1, m1, s1, r1, n1, k1, ne, q⟩, harr⟩ := (round s _ tm H hI hd fun r' e => by cases e).run rr B D w g a s' ra hN (Nat.le_trans hB0 m.size) hm b (.inLoop c :: k) cs hro hb hrr; have mm := m.tr m1 s0 s'; cases e with
   | normal =>
    obtain ⟨s3, hs, tm2, H2, hg, hI1⟩ := q; cases hs; obtain ⟨g2, m2, sm2, r2⟩ := hg w₁ g1 s1; obtain ⟨e₂, a₂, w₂, hq₂, harr₂⟩ := ih round tm2 H2 hI1 w₁ g2 a₁ (mm.tr m2 s0 s1) sm2 (r2 _ r1) n1 (k1.mono m2); exact ⟨e₂, a₂, w₂, hq₂, .of_steps (StepsIn.trans harr (.one (fenced_calm hb hrr rfl) stepR_inLoop)) harr₂⟩
   | exit id => exact ⟨_, a₁, w₁, ⟨tm1, g1, H1, mm, s1, r1, n1, k1, ne, q⟩, .pass (x := .inLoop c) rfl (fun _ _ => .inl (by simp)) harr⟩
   | goto l => exact ⟨_, a₁, w₁, ⟨tm1, g1, H1, mm, s1, r1, n1, k1, ne, q⟩, .pass (x := .inLoop c) rfl (fun _ _ => .inl (by simp)) harr⟩
   | ret => exact ⟨_, a₁, w₁, ⟨tm1, g1, H1, mm, s1, r1, n1, k1, ne, q⟩, .pass (x := .inLoop c) rfl (fun _ _ => .inl (by simp)) harr⟩
   | panic ch => exact ⟨_, a₁, w₁, ⟨tm1, g1, H1, mm, s1, r1, n1, k1, ne, q⟩, .pass (x := .inLoop c) rfl (fun _ _ => .inl (by simp)) harr⟩
   | outgrown => exact absurd rfl ne
 obtain ⟨e, a', w', hq, harr⟩ := key tm1 H1 hI w0 g0 a0 (.refl _ _) s0 r0 hN0 hm0; exact ⟨e, a', w', hq, .of_steps (.one (fenced_calm hb hrr rfl) stepR_loop) harr⟩
theorem Ag {f : FuncId} {fn : Func} {c : Code} {args : List IV} {K : Aw → A2 → Prop} (hf : P.funcs[f]? = some fn) (hbd : Bl P f = true) (hb : fn.body = some c) (hN : fn.ntmps = N)
    (hn : (decide (args.length ≤ N) && fn.results.toList.all (rvN N)) = true)
    (h : ∀ cb, cb = c → H.Wf → (∀ a, a ∈ args → Bd a) → (∀ a, a ∈ args → NB H.next a) → IWp P N cb (PG P fn.results.toList H K) (tm0 args) H) : Ac P f args H K := by
 subst hN; refine ⟨hbd, fun w g vs s rl => ?_⟩; simp only [Bool.and_eq_true, decide_eq_true_eq] at hn; refine (Gf hbd hf hb hn.1 hn.2 fun hw => h c rfl hw (fun a ha => ?_) (fun a ha => ?_)).run w g vs s rl
 ·obtain ⟨j, hj⟩ := List.getElem?_of_mem ha; have hlt : j < vs.size := by rw [rl.1]; exact (List.getElem?_eq_some_iff.1 hj).1
  exact (rl.2 j _ a (Array.getElem?_eq_getElem hlt) hj).bd
 ·obtain ⟨j, hj⟩ := List.getElem?_of_mem ha; have hlt : j < vs.size := by rw [rl.1]; exact (List.getElem?_eq_some_iff.1 hj).1
  have := (rl.2 j _ a (Array.getElem?_eq_getElem hlt) hj).nb
  rwa [s.nx] at this
theorem Ac.wk {f : FuncId} {args args' : List IV} {K : Aw → A2 → Prop} (hl : args'.length = args.length) (hw : ∀ (j : Nat) (i i' : IV), args[j]? = some i → args'[j]? = some i' → Wk i i') (h : Ac P f args' H K) : Ac P f args H K := by
 refine ⟨h.body, fun w g vs s rl => h.run w g vs s ⟨by rw [rl.1, hl], fun j x c hx hc => ?_⟩⟩; have hlt : j < args.length := by rw [← hl]; exact (List.getElem?_eq_some_iff.1 hc).1
 exact hw j _ c (List.getElem?_eq_getElem hlt) hc w g x (rl.2 j x _ hx (List.getElem?_eq_getElem hlt))
theorem Ac.eqA {f : FuncId} {args args' : List IV} {K : Aw → A2 → Prop} (e : args = args') (h : Ac P f args' H K) : Ac P f args H K := e ▸ h
inductive WkL : List IV → List IV → Prop
  | nil : WkL [] []
  | cons {a b : IV} {l m : List IV} (h : Wk a b) (t : WkL l m) : WkL (a :: l) (b :: m)
theorem WkL.len {l m : List IV} (h : WkL l m) : m.length = l.length := by
 induction h with
 | nil => rfl
 | cons _ _ ih => simp [ih]
theorem WkL.get {l m : List IV} (h : WkL l m) : ∀ (j : Nat) (a b : IV), l[j]? = some a → m[j]? = some b → Wk a b := by
 induction h with
 | nil => intro j a b h; simp at h
 | cons h _ ih =>
  intro j a b h1 h2; cases j with
  | zero => simp at h1 h2; subst h1; subst h2; exact h
  | succ j => exact ih j a b (by simpa using h1) (by simpa using h2)
theorem Wk.agL {l m : List IV} (h : WkL l m) : Wk (.ag l) (.ag m) := fun w g x hx => by
  cases hx with
  | ag xs _ hl ho hr =>
    refine .ag xs m (by rw [hl, h.len]) ho fun j x c h1 h2 => ?_
    have hlt : j < l.length := by rw [← h.len]; exact (List.getElem?_eq_some_iff.1 h2).1
    exact h.get j _ c (List.getElem?_eq_getElem hlt) h2 w g x (hr j x _ h1 (List.getElem?_eq_getElem hlt))
theorem Ac.wkL {f : FuncId} {args args' : List IV} {K : Aw → A2 → Prop} (hw : WkL args args') (h : Ac P f args' H K) : Ac P f args H K := Ac.wk hw.len hw.get h
theorem A6 {α : Type} {c : Prop} [Decidable c] {b : Bool} {X Y : Option α} {x : α} {K : Bool → Prop} {sk : Tm → Prop} (h : (if c then X else Y) = some x) (e : b = decide c) (h1 : c → X = some x → K true) (h2 : ¬ c → Y = some x → K false) : D9 (.v (.bool b)) K sk tm := by
 subst e; refine Et (fun hc => ?_) (fun hc => ?_)
 ·have hc : c := by simpa using hc
  rw [if_pos hc] at h; simpa [hc] using h1 hc h
 ·have hc : ¬ c := by simpa using hc
  rw [if_neg hc] at h; simpa [hc] using h2 hc h
theorem Gh.PZ {tm : Tm} {H : A2} {d sz : Nat} (h0 : 0 < sz) (hd : tm d = .v (.slice none 0 0)) : Gh tm H (upd tm d (.os H.next 0)) (H.new (.row sz [])) := by
 intro w g s; have hu := s.upd (w' := w) (H' := H.new (.row sz [])) H.next (.slice none 0 0) (.row sz []) rfl (Nat.le_succ _) (Nat.lt_succ_self _) (Nat.le_refl _) rfl rfl rfl
  (fun b hb => .inr rfl) (fun b hb => by simp [blk] at hb) (.inl rfl) (fun g' m _ => ⟨none, 0, rfl, by simp, by simp [Cm], by simp, h0, .inl ⟨rfl, rfl⟩⟩)
 refine ⟨_, hu.2, hu.1, fun a r i hi => ?_⟩; show R w _ _ (if i = d then _ else _); by_cases e : i = d
 ·rw [if_pos e]; subst e; have h1 := r i hi; rw [hd] at h1; rw [h1.v_eq]; exact CJ (Nat.lt_succ_self _) ⟨none, 0, rfl⟩
 ·rw [if_neg e]; exact (r i hi).mono hu.2
theorem Ab {α : Type} {c : Prop} [Decidable c] {o : Operand} {X Y : Option α} {r : α} {x y : Code} (h : (if c then X else Y) = some r) (ho : ev tm o = .v (.bool (decide c))) (hN : opd N o = true)
    (h1 : c → X = some r → IWp P N x Q tm H) (h2 : ¬ c → Y = some r → IWp P N y Q tm H) : IWp P N (.cond o x y) Q tm H := by
 refine Hg ho hN (fun e => ?_) (fun e => ?_)
 ·have hc : c := by simpa using e
  rw [if_pos hc] at h; exact h1 hc h
 ·have hc : ¬ c := by simpa using e
  rw [if_neg hc] at h; exact h2 hc h
theorem Ao {o : Operand} {x y : Code} (ho : ev tm o = .v (.bool true)) (hN : opd N o = true) (h1 : IWp P N x Q tm H) : IWp P N (.cond o x y) Q tm H := Hg ho hN (fun _ => h1) (fun e => by cases e)
theorem Ap {o : Operand} {x y : Code} (ho : ev tm o = .v (.bool false)) (hN : opd N o = true) (h1 : IWp P N y Q tm H) : IWp P N (.cond o x y) Q tm H := Hg ho hN (fun e => by cases e) (fun _ => h1)
theorem IWp.up {a : Code} (h : IWp P N a (fun e tm H => ∃ tm1 H1, Gh tm H tm1 H1 ∧ Q e tm1 H1) tm H) : IWp P N a Q tm H := by
 refine ⟨fun rr B D w g ac s r hN hB hm => wpIn_mono (h.run rr B D w g ac s r hN hB hm) ?_⟩
 rintro e a' w' ⟨tm', g', H', h1, h2, h3, h4, h5, h6, tm1, H1, hg, hq⟩
 obtain ⟨g2, m2, s2, r2⟩ := hg w' g' h2; exact ⟨tm1, g2, H1, h1.tr m2 s h2, s2, r2 _ h3, h4, h5.mono m2, h6, hq⟩
theorem Az {a : Code} (J : Tm → A2 → Prop) (hJ : ∀ tm H, J tm H → Q .normal tm H) (h : ∀ K', (∀ tm H, UpI J tm H → K' tm H) → IWp P N a (CC K' Q) tm H) : IWp P N a Q tm H := by
 refine IWp.up ((h (UpI J) fun _ _ h => h).mono fun e tm H hq => ?_); cases e with
 | normal => obtain ⟨tm1, H1, h1, h2⟩ := hq; exact ⟨tm1, H1, h1, hJ _ _ h2⟩
 | _ => exact ⟨tm, H, .refl _ _, hq⟩
section
variable {H0 : A2} {K : Aw → A2 → Prop}
theorem Ax {r r' : IV} (he : Ext H0 H) (e : r' = r) (hn : NB H0.next r) (h : K (.ret r) H0) : Km r' H0 K H := by subst e; exact AN he hn h
theorem As {r r' r2 : IV} {J : A2} (he : BI H0 H J) (e : r2 = r') (hf : Fz H J r r2) (h : K (.ret r') J) : Km r H0 K H := by subst e; exact BA he hf h
end
@[go_sem] theorem X5 {α β : Type} {l : List α} {f : α → β} {n : Nat} (h : l.length ≤ n) : (l.map f).take n = l.map f := List.take_of_length_le (by simpa using h)
@[go_sem high] theorem KK {H : A2} {o : HO} {i : Nat} (h : ¬ i = H.next) : (H.new o).obj i = H.obj i := by simp [A2.new, h]
@[go_sem high] theorem aq {H : A2} {k i : Nat} {o : HO} (h : ¬ i = k) : (H.set k o).obj i = H.obj i := by simp [A2.set, h]
@[go_sem high] theorem au {H : A2} {k i : Nat} (h : ¬ i = k) : (H.del k).obj i = H.obj i := by simp [A2.del, h]
end Go.Idl
namespace Go.Proofs
open Go.Shelf Go.Sort Go.RowKit
theorem Tryz.Hz : Builder.Extra Tryz.prog Tryz.Jo where
  sizeBuilder := by kernel_rfl
  liesBuilder := by kernel_rfl
  t5 := Tryz.underlying5
  a5 := Tryz.isAgg5
  z5 := Tryz.sizeOf5
  v5 := Tryz.zeroValue5
  infoByte := by kernel_rfl
  cellsByte := by kernel_rfl
  sizeByte := by kernel_rfl
  neB5 := by decide
set_option maxHeartbeats 1000000 in
set_option maxRecDepth 100000 in
theorem Tryz.Uc (b : Nat) (w : World) (h0 : w.cell? ⟨b, 0, none⟩ = some (.pointer (some ⟨b, 0, none⟩))) :
    Calls Tryz.prog 128 #[.pointer (some ⟨b, 0, none⟩)] w fun e w' => e = .returned (.tuple #[]) ∧ w' = w := by
 obtain ⟨j, hj, _⟩ := Option.map_eq_some_iff.1 Tryz.Hz.sizeBuilder
 go_enter Tryz.func128, Tryz.ntmps128
 go_wp2
 rw [Lib.run_neq_ptr_same w _ Tryz.underlying142 hj]
 go_wp2
 go_end0
 exact ⟨rfl, rfl⟩
set_option maxHeartbeats 1000000 in
set_option maxRecDepth 100000 in
theorem Tryz.Su (b : Nat) (w : World) (h0 : w.cell? ⟨b, 0, none⟩ = some (.pointer none)) (hsh : w.shape? b = some (144, 2)) (hfz : w.frozen? ⟨b, 0, none⟩ = false) :
    Calls Tryz.prog 128 #[.pointer (some ⟨b, 0, none⟩)] w fun e w' => e = .returned (.tuple #[]) ∧ w' = w.setCell ⟨b, 0, none⟩ (.pointer (some ⟨b, 0, none⟩)) := by
 obtain ⟨j, hj, hjs⟩ := Option.map_eq_some_iff.1 Tryz.Hz.sizeBuilder
 go_enter Tryz.func128, Tryz.ntmps128
 go_wp2
 rw [Lib.run_to_unsafe w ⟨b, 0, none⟩ Tryz.underlying142 Tryz.underlying204 hj (by rw [hjs]; decide) hsh (Nat.zero_lt_succ 1)]; simp only [Result.andThen]; rw [Oper.upon_value]
 go_wp2
 rw [run_callFunc_extern Tryz.func151 (by kernel_rfl) (by kernel_rfl) (by kernel_rfl) (e := Extern.AbiNoEscape.same) (by kernel_rfl)]; rw [Lib.run_noEscape]; simp only [Result.andThen]; rw [Oper.upon_value]
 go_wp2
 rw [Lib.run_from_unsafe w ⟨b, 0, none⟩ Tryz.underlying204 Tryz.underlying142 hj hsh Tryz.Hz.liesBuilder]; simp only [Result.andThen]; rw [Oper.upon_value]
 go_wp2
 go_end0
 exact ⟨rfl, rfl⟩
end Go.Proofs
namespace Go.Idl
open Go Go.Proofs.Tryz Go.RowKit Go.Proofs Go.Shelf
theorem ay {H : A2} {K : Aw → A2 → Prop} (k : Nat) (a buf : IV) (ho : H.obj k = some (.ty 144 (.cells [a, buf])))
    (ha : a = .v (.pointer none) ∨ a = .p k 0) (hK : K (.ret (.tu [])) (H.set k (.ty 144 (.cells [.p k 0, buf])))) : Ac prog 128 [.p k 0] H K :=
  IF (by kernel_rfl) Tryz.Su Tryz.Uc k a buf ho ha hK
theorem Ud {H : A2} {K : Aw → A2 → Prop} (n0 k : Nat) (l : List UInt8) (hB : Bld 144 5 H n0 k l)
    (hK : ∀ J, M5 H J n0 k → K (.ret (.v (str l))) J) : Ac prog 96 [.p k 0] H K :=
  KJ Tryz.W_ Tryz.Hz rfl (by kernel_rfl) n0 k l hB hK
set_option pp.deepTerms false in
set_option maxRecDepth 4000 in
theorem az {H : A2} {K : Aw → A2 → Prop} (n0 k : Nat) (l s : List UInt8) (hB : Bld 144 5 H n0 k l) (hn : n0 ≤ H.next) (hl : l.length + s.length ≤ 140737488355328)
    (hK : ∀ J, M5 H J n0 k → Bld 144 5 J n0 k (l ++ s) → K (.ret (.tu [.v (.int .i64 s.length), .v .nilIface])) J) : Ac prog 93 [.p k 0, .v (str s)] H K := by
 obtain ⟨hk0, a, buf, ho, ha, hbuf⟩ := hB; refine AP (N := 19) func93 (by kernel_rfl) rfl (by kernel_rfl) (by kernel_rfl) fun hw hbd hnb => ?_; have hkn : k < H.next := by
  rcases Nat.lt_or_ge k H.next with h | h
  ·exact h
  ·rw [hw k h] at ho; cases ho
 simp (maxSteps := 1000000) (disch := omega) [go_sem]; refine ay k a buf ho ha ?_; rcases hbuf with ⟨rfl, rfl⟩ | ⟨kb, hkb, hne, rfl, hob⟩
 ·have e1 : ¬ k = H.next := by omega
  simp (maxSteps := 1000000) (disch := omega) [go_sem, e1]; have e2 : ¬ H.next = k := by omega
  refine ⟨by simpa [AR, C3] using hl, D3 (hK _ ⟨by simp [go_sem], fun i o hi hik ht => ?_, rfl⟩ ⟨hk0, .p k 0, .os H.next (byt s).length, by simp [go_sem], .inr rfl, .inr ⟨H.next, hn, e2, by simp [C3], by simp [go_sem, e2]⟩⟩)⟩; have hin : i < H.next := by
   rcases Nat.lt_or_ge i H.next with h | h
   ·exact h
   ·rw [hw i h] at hi; cases hi
  have e3 : ¬ i = H.next := by omega
  simp [go_sem, hik, e3, hi]
 ·have hkb' : kb < H.next := by
   rcases Nat.lt_or_ge kb H.next with h | h
   ·exact h
   ·rw [hw kb h] at hob; cases hob
  simp (maxSteps := 1000000) (disch := omega) [go_sem, hob, hne]; refine ⟨⟨by simp [AR, C3], by simpa [AR, C3] using hl⟩, D3 (hK _ ⟨by simp [go_sem], fun i o hi hik ht => ?_, rfl⟩ ⟨hk0, .p k 0, .os kb ((byt l).length + (byt s).length), by simp [go_sem], .inr rfl, .inr ⟨kb, hkb, hne, by simp [C3], by simp [go_sem, hne, byt]⟩⟩)⟩; have e3 : ¬ i = kb := by
   rintro rfl
   rw [hob] at hi; cases hi; rcases ht with ht | ht
   ·omega
   ·cases ht
  simp [go_sem, hik, e3, hi]
theorem Ext.Ue {H H' J : A2} {n0 k : Nat} (he : Ext H H') (hn : n0 = H.next) (hk : n0 ≤ k) (hb : M5 H' J n0 k) : Ext H J := by
 refine ⟨he.wf, Nat.le_trans he.le hb.le, fun i o hi => ?_, hb.sn.trans he.sn⟩; have hin : i < H.next := by
  rcases Nat.lt_or_ge i H.next with h | h
  ·exact h
  ·rw [he.wf i h] at hi; cases hi
 exact hb.keep i o (he.sub i o hi) (by omega) (.inl (by omega))
theorem Bld.fresh {H' : A2} {n0 k : Nat} (h : H'.obj k = some (.ty 144 (.cells [.v (.pointer none), .v (.slice none 0 0)]))) (hk : n0 ≤ k) : Bld 144 5 H' n0 k [] := ⟨hk, _, _, h, .inl rfl, .inl ⟨rfl, rfl⟩⟩
end Go.Idl
namespace Go.Idl
open Go Go.Proofs.Tryz Go.RowKit Go.Proofs Go.Shelf
def Da : List (List UInt8) := [[102, 117, 108, 108], [103, 105, 118, 101, 110], [102, 97, 109, 105, 108, 121], [111, 114, 103], [116, 105, 116, 108, 101], [110, 111, 116, 101], [109, 97, 105, 108], [112, 104, 111, 110, 101]]
set_option maxRecDepth 8000 in
theorem R7 {H : A2} {K : Aw → A2 → Prop} (hK : K (.ret (.ag (Da.map fun x => .v (str x)))) H) : Ac prog 94 [] H K := by
 refine AP (N := 2) func94 (by kernel_rfl) rfl (by kernel_rfl) (by kernel_rfl) fun hw hbd hnb => ?_; simp (maxSteps := 1000000) (disch := omega) [go_sem, bdP]; refine AN ((Ext.refl hw).new _ |>.set (Nat.le_refl _) _) ?_ hK; simp [TY, Sn]
set_option pp.deepTerms false in
theorem Uf {H : A2} {K : Aw → A2 → Prop} (n0 k : Nat) (l a b : List UInt8) (hB : Bld 144 5 H n0 k l) (hn : n0 ≤ H.next) (hl : l.length + a.length + b.length ≤ 140737488355000)
    (hK : ∀ J, M5 H J n0 k → Bld 144 5 J n0 k (l ++ (a ++ 32 :: b ++ [10])) → K (.ret (.tu [])) J) : Ac prog 92 [.v (str a), .v (str b), .p k 0] H K := by
 refine AP (N := 11) func92 (by kernel_rfl) rfl (by kernel_rfl) (by kernel_rfl) fun hw hbd hnb => ?_; simp (maxSteps := 1000000) (disch := omega) [go_sem]; refine az n0 k l _ hB hn (by simp; omega) fun J hJ hB' => ?_; simp (maxSteps := 1000000) (disch := omega) [go_sem]; exact D3 (hK J hJ (by simpa using hB'))
def IG (f : Nat) (l : List (List UInt8)) : List UInt8 :=
  (if l = [] then [] else Da.getD f [] ++ 32 :: Lib.decDigits l.length ++ [10]) ++ l.flatMap fun v => Lib.decDigits v.length ++ 32 :: v ++ [10]
def BO (c : List (List (List UInt8))) : List UInt8 := c.zipIdx.flatMap fun p => IG p.2 p.1
def Ug (v : List UInt8) : List UInt8 := Lib.decDigits v.length ++ 32 :: v ++ [10]
def KL (f : Nat) (l : List (List UInt8)) : List UInt8 := if l = [] then [] else Da.getD f [] ++ 32 :: Lib.decDigits l.length ++ [10]
theorem M6 (f : Nat) (l : List (List UInt8)) : IG f l = KL f l ++ l.flatMap Ug := rfl
def Fe (c : List (List (List UInt8))) (i : Nat) : List UInt8 := (c.zipIdx.take i).flatMap fun p => IG p.2 p.1
theorem M7 (c : List (List (List UInt8))) (i : Nat) (h : i < c.length) : Fe c (i + 1) = Fe c i ++ IG i c[i] := by
 unfold Fe; rw [List.take_succ_eq_append_getElem (by simpa using h), List.flatMap_append]; simp
theorem M8 (f : Nat) : (Da.getD f []).length ≤ 10 := by
 match f with
 | 0 | 1 | 2 | 3 | 4 | 5 | 6 | 7 => simp [Da]
 | f + 8 => simp [Da]
end Go.Idl
namespace Go.Idl
open Go Go.Proofs.Tryz Go.RowKit Go.Proofs Go.Shelf
theorem Ds (n : Nat) : (Lib.decDigits n).length ≤ n + 1 := by
 induction n using Nat.strongRecOn with
 | _ n ih =>
  unfold Lib.decDigits; split
  ·simp
  ·have := ih (n / 10) (by omega); simp only [List.length_append, List.length_cons, List.length_nil]; omega
theorem KM (l : List (List UInt8)) (h : ∀ s, s ∈ l → s.length ≤ 100000) : (l.flatMap Ug).length ≤ l.length * 200003 := by
 induction l with
 | nil => simp
 | cons s l ih =>
  have h1 := h s (by simp); have h2 := ih fun s hs => h s (by simp [hs]); have h3 := Ds s.length; simp only [List.flatMap_cons, List.length_append, List.length_cons, List.length_nil, Ug]; omega
theorem KN (f : Nat) (l : List (List UInt8)) : (KL f l).length ≤ 13 + l.length := by
 unfold KL; split
 ·simp
 ·have h1 := M8 f; have h2 := Ds l.length; simp only [List.length_append, List.length_cons, List.length_nil]; omega
set_option maxRecDepth 8000 in
theorem Sv (c : List (List (List UInt8))) (h : ∀ l, l ∈ c → l.length ≤ 1000 ∧ ∀ s, s ∈ l → s.length ≤ 100000) (i : Nat) : (Fe c i).length ≤ i * 300000000 := by
 induction i with
 | zero => simp [Fe]
 | succ i ih =>
  rcases Nat.lt_or_ge i c.length with hi | hi
  ·rw [M7 c i hi, M6]; have h1 := h c[i] (List.getElem_mem _); have h2 := KN i c[i]; have h3 := KM c[i] h1.2; simp only [List.length_append]; omega
  ·have : Fe c (i + 1) = Fe c i := by
    unfold Fe; rw [List.take_of_length_le (by simp; omega), List.take_of_length_le (by simp; omega)]
   rw [this]; exact Nat.le_trans ih (Nat.mul_le_mul_right _ (Nat.le_succ _))
set_option pp.deepTerms false in
set_option maxRecDepth 8000 in
theorem X6 {H : A2} {K : Aw → A2 → Prop} (c : List (List (List UInt8))) (hc : c.length = 8) (hs : ∀ l, l ∈ c → l.length ≤ 1000 ∧ ∀ s, s ∈ l → s.length ≤ 100000) (hIt : ∀ (n : Nat), n ≤ 100000 → ∀ (J : A2) (K : Aw → A2 → Prop), J.sn = H.sn → K (.ret (.v (str (Lib.decDigits n)))) J → Ac prog 95 [.v (.int .i64 n)] J K)
    (hK : K (.ret (.tu [.v (str (if AH c = true then BO c else [])), .v (.int .i64 (if AH c = true then 0 else 2))])) H) : Ac prog 61 [cS c] H K := by
 have ht : List.take 8 (c.map sS) = c.map sS := by rw [List.take_of_length_le]; simp [hc]
 refine AP (N := 43) func61 (by kernel_rfl) rfl (by kernel_rfl) (by kernel_rfl) fun hw hbd hnb => ?_; simp (maxSteps := 1000000) (disch := omega) [go_sem, hc, ht]; refine R5 c hc (fun l hl => ⟨by have := (hs l hl).1; omega, fun s h => by have := (hs l hl).2 s h; omega⟩) ?_; simp (maxSteps := 1000000) (disch := omega) [go_sem, hc, ht]; refine BM ?_ ?_ <;> intro g1 <;> (try simp at g1)
 ·simp (maxSteps := 1000000) (disch := omega) [go_sem, hc, ht]; rw [g1] at hK; exact AN ((Ext.refl hw).new _) (by simp [TZ, Sn]) hK
 ·simp (maxSteps := 1000000) (disch := omega) [go_sem, hc, ht]; refine KF c hc ?_; simp (maxSteps := 1000000) (disch := omega) [go_sem, hc, ht]; refine CV (gf := 150) (cap := [.cp [.sl 1 ((c.map sS).map fun x => [x])]]) (by kernel_rfl) (by simp [go_sem]) (U6 (c.map sS))
   (fun i Hu => Bld 144 5 Hu H.next (H.next + 1) (Fe c i) ∧ Hu.obj (H.next + 2) = some (.cells [.fn (.func 92) [] [.p (H.next + 1) 0]]) ∧ Ext H Hu ∧ H.next + 3 ≤ Hu.next) ?_ (by simp) ?_ ?_ ?_
  ·refine ⟨Bld.fresh (by simp [go_sem]) (by omega), by simp [go_sem], (((Ext.refl hw).new _ |>.new _).new _).set (by simp [go_sem]) _, by simp [go_sem]⟩
  ·intro args h; obtain ⟨i, hi⟩ := List.getElem?_of_mem h; simp only [ixs, List.getElem?_map, Option.map_eq_some_iff] at hi; obtain ⟨p, _, rfl⟩ := hi; rfl
  ·rintro i args Hu hx ⟨hB, h2, h3, h4⟩
   have hi : i < c.length := by
    have := (List.getElem?_eq_some_iff.1 hx).1; simpa [CL] using this
   rw [JM (by simpa using hi)] at hx; cases hx; have hsi := hs c[i] (List.getElem_mem _); have hpl := Sv c (fun l hl => ⟨(hs l hl).1, (hs l hl).2⟩) i; have hi8 : i < 8 := by omega
   rw [List.getElem_map]; have hBs : Bld 144 5 Hu.skip H.next (H.next + 1) (Fe c i) := hB; have hes := h3.skip; have h2s : Hu.skip.obj (H.next + 2) = some (.cells [.fn (.func 92) [] [.p (H.next + 1) 0]]) := h2; have h4s : H.next + 3 ≤ Hu.skip.next := by simp [go_sem]; omega
   have hskip : (fun i Hu => Bld 144 5 Hu H.next (H.next + 1) (Fe c i) ∧ Hu.obj (H.next + 2) = some (.cells [.fn (.func 92) [] [.p (H.next + 1) 0]]) ∧ Ext H Hu ∧ H.next + 3 ≤ Hu.next) = fun (i : Nat) (Hu : A2) => Bld 144 5 Hu H.next (H.next + 1) (Fe c i) ∧ Hu.obj (H.next + 2) = some (.cells [.fn (.func 92) [] [.p (H.next + 1) 0]]) ∧ Ext H Hu ∧ H.next + 3 ≤ Hu.next := rfl; generalize Hu.skip = H1 at hBs hes h2s h4s ⊢; refine AF _ (by kernel_rfl) _ _ _ ?_; simp (maxSteps := 1000000) (disch := omega) [go_sem, BV, hc]; refine Ak ?_; refine BE (fun tm' H' => tm' 7 = sS c[i] ∧ tm' 5 = .p (H.next + 2) 0 ∧ Bld 144 5 H' H.next (H.next + 1) (Fe c i ++ KL i c[i]) ∧ H'.obj (H.next + 2) = some (.cells [.fn (.func 92) [] [.p (H.next + 1) 0]]) ∧ Ext H H' ∧ H.next + 3 ≤ H'.next) ?_ fun cb hcb => ?_
   ·rintro tm2 H2 ⟨t7, t5, hB2, ho2, he2, hl2⟩
    refine AF _ (by kernel_rfl) _ _ _ ?_; simp (maxSteps := 1000000) (disch := omega) [go_sem, t7, t5]; refine Bk (fun tm' H' => ∃ j : Nat, tm' 5 = .p (H.next + 2) 0 ∧ tm' 29 = sS c[i] ∧ tm' 30 = .v (.int .i64 c[i].length) ∧ tm' 31 = .v (.int .i64 j) ∧ j ≤ c[i].length ∧ Bld 144 5 H' H.next (H.next + 1) (Fe c i ++ KL i c[i] ++ (c[i].take j).flatMap Ug) ∧ H'.obj (H.next + 2) = some (.cells [.fn (.func 92) [] [.p (H.next + 1) 0]]) ∧ Ext H H' ∧ H.next + 3 ≤ H'.next) (fun tm' _ => c[i].length - (intOf (tm' 31)).toNat) (.same ?_) ?_
    ·exact ⟨0, by simp [go_sem, t5], by simp [go_sem], by simp [go_sem], by simp [go_sem], by omega, by simpa using hB2, ho2, he2, hl2⟩
    rintro I' μ' hI hμ tm' H' ⟨j, q5, q29, q30, q31, hj, hB3, ho3, he3, hl3⟩
    refine AF _ (by kernel_rfl) _ _ _ ?_; simp (maxSteps := 1000000) (disch := omega) [go_sem, q5, q29, q30, q31]; refine BM ?_ ?_ <;> intro hcj <;> (try simp at hcj)
    ·have hv := hsi.2 c[i][j] (List.getElem_mem _); simp (maxSteps := 1000000) (disch := omega) [go_sem, q5, q29, q30, q31]; refine By [0, 1, 2, 4, 3, 5] (by kernel_rfl) (by kernel_rfl) (fun _ _ _ _ h => h) ?_; simp (maxSteps := 1000000) (disch := omega) [go_sem, q5, q29, q30, q31, ho3]; refine hIt c[i][j].length hv _ _ he3.sn ?_; simp (maxSteps := 1000000) (disch := omega) [go_sem, q5, q29, q30, q31, ho3]; have hd := Ds c[i][j].length; have hlen := KM (c[i].take j) (fun s hs' => hsi.2 s (List.mem_of_mem_take hs')); have hlen2 : (c[i].take j).length ≤ 1000 := by have := hsi.1; simp; omega
     have hhl := KN i c[i]; refine Uf H.next (H.next + 1) _ _ _ hB3 (by omega) (by simp only [List.length_append]; omega) fun J hJ hB4 => ?_; simp (maxSteps := 1000000) (disch := omega) [go_sem, q5, q29, q30, q31, ho3]; have hx2 := hJ.keep (H.next + 2) _ ho3 (by omega) (.inr rfl); refine .of hI hμ ⟨j + 1, by simp [go_sem, q5], by simp [go_sem, q29], by simp [go_sem, q30], by simp [go_sem], by omega, ?_, hx2, he3.Ue rfl (by omega) hJ, Nat.le_trans hl3 hJ.le⟩ (by simp [go_sem, q31]; omega); rw [List.take_succ_eq_append_getElem hcj, List.flatMap_append]; simpa [Ug] using hB4
    ·simp (maxSteps := 1000000) (disch := omega) [go_sem, q5, q29, q30, q31]; have e : j = c[i].length := by omega
     subst e; rw [List.take_length] at hB3; refine ⟨?_, ho3, he3, hl3⟩; rw [M7 c i hi, M6, ← List.append_assoc]; exact hB3
   ·refine AF _ (by kernel_rfl) _ _ _ ?_; simp (maxSteps := 1000000) (disch := omega) [go_sem, BV, hc]; refine BM ?_ ?_ <;> intro g2 <;> (try simp at g2)
    ·simp (maxSteps := 1000000) (disch := omega) [go_sem, hc]; refine By [0, 2, 4, 5, 1, 3, 6, 7] (by kernel_rfl) (by kernel_rfl) (fun _ _ _ _ h => h) ?_; simp (maxSteps := 1000000) (disch := omega) [go_sem, hc, h2s]; refine R7 ?_; have hni : i < Da.length := by simp [Da]; omega
     have hne : ¬ c[i] = [] := by rintro e; rw [e] at g2; simp at g2
     simp (maxSteps := 1000000) (disch := omega) [go_sem, hc, h2s, hni]; refine hIt c[i].length (by have := hsi.1; omega) _ _ hes.sn ?_; simp (maxSteps := 1000000) (disch := omega) [go_sem, hc, h2s, hni]; have hd := Ds c[i].length; have hnl := M8 i; have hgi : Da.getD i [] = Da[i] := by simp [hni]
     rw [hgi] at hnl; refine Uf H.next (H.next + 1) _ _ _ hBs (by omega) (by omega) fun J hJ hB4 => ?_; simp (maxSteps := 1000000) (disch := omega) [go_sem, hc, h2s, hni]; have hx2 := hJ.keep (H.next + 2) _ h2s (by omega) (.inr rfl); refine hcb _ _ (.same ⟨by simp [go_sem], by simp [go_sem], ?_, hx2, hes.Ue rfl (by omega) hJ, Nat.le_trans h4s hJ.le⟩); rw [KL, if_neg hne, hgi]; simpa using hB4
    ·simp (maxSteps := 1000000) (disch := omega) [go_sem, hc]; have e0 : c[i] = [] := by
      cases h : c[i] with
      | nil => rfl
      | cons a b => rw [h] at g2; simp at g2
     refine hcb _ _ (.same ⟨by simp [go_sem], by simp [go_sem], ?_, h2s, hes, h4s⟩); rw [KL, if_pos e0, List.append_nil]; exact hBs
  ·rintro Hu ⟨hB, h2, h3, h4⟩
   simp (maxSteps := 1000000) (disch := omega) [go_sem, hc]; rw [CL, List.length_map] at hB; have hBs : Bld 144 5 Hu.skip H.next (H.next + 1) (Fe c c.length) := hB; refine Ud H.next (H.next + 1) _ hBs fun J hJ => ?_; simp (maxSteps := 1000000) (disch := omega) [go_sem, hc]; have e : Fe c c.length = BO c := by
    unfold Fe BO; rw [List.take_of_length_le (by simp)]
   rw [g1, if_pos rfl, if_pos rfl, ← e, hc] at hK; exact AN (h3.skip.Ue rfl (by omega) hJ) (by simp [TZ, Sn]) hK
end Go.Idl
namespace Go.Idl
open Go Go.RowKit
variable {P : Program} {H : A2}
def A2.bare (H : A2) : A2 := { H with obj := fun _ => none }
@[go_sem] theorem iO {k : Nat} : H.bare.obj k = none := rfl
@[go_sem] theorem gq : H.bare.next = H.next := rfl
theorem Oz : O7 H.bare H := fun k o h => by simp [A2.bare] at h
theorem Sim.bare {w : World} {g : Gs} (s : Sim w g H) : Sim w (g.to H.bare) H.bare where
  nx := rfl
  sh := fun _ => rfl
  lt := fun k h => by simp [A2.bare] at h
  bk := fun k b h => by simp [Gs.to, A2.bare, A2.sh] at h
  inj := fun k k' b h => by simp [Gs.to, A2.bare, A2.sh] at h
  obj := fun k o h => by simp [A2.bare] at h
  old := s.old
  snap := fun p hp i hi => by
    have h := s.snap p hp i hi
    refine h.CB ⟨Nat.le_refl _, fun _ _ _ => rfl, fun b _ e => Jh (Oz.sh s) e, ?_, fun k _ e => ?_, fun k m _ e => ?_⟩
    · show g.nx ≤ H.next
      exact Nat.le_of_eq s.nx
    · simp [Gs.to, A2.bare, A2.sh] at e
    · simp [Gs.to, A2.bare, A2.sh] at e
theorem AI.HA {w w' : World} {g g' : Gs} (m : AI w (g.to H.bare) w' g') : AI w g w' g where
  size := m.size
  os := m.os
  tape := m.tape
  output := m.output
  keep := fun b hb _ => m.keep b hb fun ⟨k, h1, _⟩ => by simp [Gs.to, A2.bare, A2.sh] at h1
  own := fun _ _ e => e
  oth := rfl
  nx := Nat.le_refl _
  fx := fun _ _ e => ⟨e, rfl⟩
  row := fun k m' _ e => ⟨m', e, Nat.le_refl _, fun _ => rfl⟩
theorem Sim.HA {w w' : World} {g g' : Gs} (s : Sim w g H) (m : AI w (g.to H.bare) w' g') : Sim w' g H where
  nx := s.nx
  sh := s.sh
  lt := s.lt
  bk := fun k b h1 h2 => ⟨(s.bk k b h1 h2).1, Nat.lt_of_lt_of_le (s.bk k b h1 h2).2 m.size⟩
  inj := s.inj
  obj := fun k o h => Cp.mono (m.HA) (fun b hb => m.keep b (s.bk k b (by rw [s.sh, A2.sh, h]; rfl) hb).2 fun ⟨k, h1, _⟩ => by simp [Gs.to, A2.bare, A2.sh] at h1) (s.obj k o h)
  old := fun b hb => Nat.lt_of_lt_of_le (s.old b hb) m.size
  snap := fun p hp i hi => (s.snap p hp i hi).mono m.HA
theorem OA {f : FuncId} {args args' : List IV} {x : Value} (hl : args'.length = args.length) (ha : ∀ (j : Nat) (a a' : IV), args[j]? = some a → args'[j]? = some a' → Fz H H.bare a a')
    (hp : ∀ (H : A2) (K : Aw → A2 → Prop), K (.ret (.v x)) H → Ac P f args' H K) {K : Aw → A2 → Prop} (hK : K (.ret (.v x)) H) : Ac P f args H K := by
 have h := hp H.bare (fun e _ => e = .ret (.v x)) rfl; refine ⟨h.body, fun w g vs s rl => ?_⟩; refine (h.run w (g.to H.bare) vs s.bare ⟨by rw [rl.1, hl], fun j y c h1 h2 => ?_⟩).mono ?_
 ·obtain ⟨a, ha'⟩ := Bo hl h2; exact (ha j a c ha' h2).sound s Oz (rl.2 j y a h1 ha')
 ·rintro e w' ⟨ie, g', H', m, _, hr, rfl⟩
  refine ⟨_, g, H, m.HA, s.HA m, ?_, hK⟩; cases hr with
  | ret y i hy => exact .ret _ _ (by rw [hy.v_eq]; exact .v _)
inductive FzL (H J : A2) : List IV → List IV → Prop
  | nil : FzL H J [] []
  | cons {a b : IV} {l m : List IV} (h : Fz H J a b) (t : FzL H J l m) : FzL H J (a :: l) (b :: m)
theorem FzL.len {J : A2} {l m : List IV} (h : FzL H J l m) : m.length = l.length := by
 induction h with
 | nil => rfl
 | cons _ _ ih => simp [ih]
theorem FzL.get {J : A2} {l m : List IV} (h : FzL H J l m) : ∀ (j : Nat) (a b : IV), l[j]? = some a → m[j]? = some b → Fz H J a b := by
 induction h with
 | nil => intro j a b h; simp at h
 | cons h _ ih =>
  intro j a b h1 h2; cases j with
  | zero => simp at h1 h2; subst h1; subst h2; exact h
  | succ j => exact ih j a b (by simpa using h1) (by simpa using h2)
theorem HB {f : FuncId} {args args' : List IV} {x : Value} (ha : FzL H H.bare args args') (hp : ∀ (H : A2) (K : Aw → A2 → Prop), K (.ret (.v x)) H → Ac P f args' H K) {K : Aw → A2 → Prop} (hK : K (.ret (.v x)) H) : Ac P f args H K :=
  OA ha.len ha.get hp hK
end Go.Idl
namespace Go.Idl
open Go Go.RowKit
variable {P : Program} {H B H' : A2}
theorem Ext.iP (h : Ext B H') {k : Nat} (hk : B.obj k = none) (o : HO) : Ext B (H'.set k o) := by
 refine ⟨h.wf, h.le, fun i o' hi => ?_, h.sn⟩; simp only [A2.set]; by_cases e : i = k
 ·rw [e, hk] at hi; cases hi
 ·rw [if_neg e]; exact h.sub i o' hi
theorem aA (hw : H.Wf) (k : Nat) : (H.del k).Wf := fun i hi => by
  simp only [A2.del]
  split
  · rfl
  · exact hw i hi
theorem AI.B9 {w w' : World} {g : Gs} (h : Below w.heap.size w w') : AI w g w' g :=
  ⟨h.size, h.os, h.tape, h.output, fun b hb _ => h.block b hb, fun _ _ e => e, rfl, Nat.le_refl _, fun _ _ e => ⟨e, rfl⟩, fun _ m' _ e => ⟨m', e, Nat.le_refl _, fun _ => rfl⟩⟩
theorem Sim.B9 {w w' : World} {g : Gs} (s : Sim w g H) (h : Below w.heap.size w w') : Sim w' g H where
  nx := s.nx
  sh := s.sh
  lt := s.lt
  bk := fun k b h1 h2 => ⟨(s.bk k b h1 h2).1, Nat.lt_of_lt_of_le (s.bk k b h1 h2).2 h.size⟩
  inj := s.inj
  obj := fun k o ho => Cp.mono (.B9 h) (fun b hb => h.block b (s.bk k b (by rw [s.sh, A2.sh, ho]; rfl) hb).2) (s.obj k o ho)
  old := fun b hb => Nat.lt_of_lt_of_le (s.old b hb) h.size
  snap := fun p hp i hi => (s.snap p hp i hi).mono (.B9 h)
def N2 (t : TypeId) (b : Bool) : IV := if b = true then .ifc t .any else .v .nilIface
theorem Sw {P : Program} {t t' : TypeId} {b : Bool} {d : TypeDesc} (hu : P.underlying t = some d) (hd : (match d with | .interface _ => true | _ => false) = true) : O2 P .neq t (N2 t' b) = some (True, .v (.bool b)) := by
 unfold O2 N2; rw [hu]; cases d <;> first | (cases b <;> rfl) | cases hd
@[simp] theorem N3 {n : Nat} {t : TypeId} {b : Bool} : NB n (N2 t b) := by
 unfold N2; split
 ·exact .ifc _ _ .any
 ·exact .v _
end Go.Idl
namespace Go.Idl
open Go Go.RowKit
variable {P : Program} {N : Nat} {tm : Tm} {H B H' : A2} {Q : Exit → Tm → A2 → Prop}
def BJ (H : A2) : List (Nat × HO) → A2
  | [] => H
  | p :: L => BJ (H.set p.1 p.2) L
theorem Sx (L : List (Nat × HO)) : ∀ H : A2, (BJ H L).next = H.next := by
 induction L with
 | nil => intro H; rfl
 | cons p L ih => intro H; exact ih _
theorem X7 (L : List (Nat × HO)) : ∀ H : A2, (BJ H L).sn = H.sn := by
 induction L with
 | nil => intro H; rfl
 | cons p L ih => intro H; exact ih _
theorem KO (L : List (Nat × HO)) : ∀ (H : A2) (i : Nat), (∃ o, (i, o) ∈ L ∧ (BJ H L).obj i = some o) ∨ ((∀ p, p ∈ L → p.1 ≠ i) ∧ (BJ H L).obj i = H.obj i) := by
 induction L with
 | nil => intro H i; exact .inr ⟨by simp, rfl⟩
 | cons p L ih =>
  intro H i; rcases ih (H.set p.1 p.2) i with ⟨o, h1, h2⟩ | ⟨h1, h2⟩
  ·exact .inl ⟨o, List.mem_cons_of_mem _ h1, h2⟩
  ·by_cases e : i = p.1
   ·refine .inl ⟨p.2, by subst e; exact List.mem_cons_self, h2.trans ?_⟩; simp [A2.set, e]
   ·refine .inr ⟨fun q hq => ?_, h2.trans ?_⟩
    ·rcases List.mem_cons.1 hq with rfl | hq
     ·exact fun e' => e e'.symm
     ·exact h1 q hq
    ·simp [A2.set, e]
@[go_sem] theorem iQ : BJ H [] = H := rfl
@[go_sem] theorem gr {k : Nat} {o : HO} {L : List (Nat × HO)} : BJ H ((k, o) :: L) = BJ (H.set k o) L := rfl
theorem Ext.AK (h : Ext B H') (k : Nat) : Ext (B.del k) H' := ⟨aA h.wf k, h.le, fun i o hi => by
  simp only [A2.del] at hi
  split at hi
  · cases hi
  · exact h.sub i o hi, h.sn⟩
def LG (H : A2) : List (Nat × HO) → A2
  | [] => H
  | p :: L => LG (H.del p.1) L
theorem B6 : LG H [] = H := rfl
theorem AX {k : Nat} {o : HO} {L : List (Nat × HO)} : LG H ((k, o) :: L) = LG (H.del k) L := rfl
theorem M9 (L : List (Nat × HO)) : ∀ H : A2, (LG H L).next = H.next := by
 induction L with
 | nil => intro H; rfl
 | cons p L ih => intro H; exact ih _
theorem Uh (L : List (Nat × HO)) : ∀ (H : A2) (i : Nat), (∀ p, p ∈ L → p.1 ≠ i) → (LG H L).obj i = H.obj i := by
 induction L with
 | nil => intro H i _; rfl
 | cons p L ih =>
  intro H i h; rw [show (LG H (p :: L)).obj i = (LG (H.del p.1) L).obj i from rfl, ih _ _ fun q hq => h q (List.mem_cons_of_mem _ hq)]; have : ¬ i = p.1 := fun e => h p (by simp) e.symm; simp [A2.del, this]
theorem BI.ioL (L : List (Nat × HO)) (he : Ext (LG H L) H') (hv : ∀ p, p ∈ L → p.1 < H.next ∧ H'.obj p.1 = some p.2 ∧ NBo H.next p.2) : BI H H' (BJ H L) := by
 have hn := Sx L H; have hle : H.next ≤ H'.next := by have := he.le; rwa [M9] at this
 have old : ∀ i o, (∀ p, p ∈ L → p.1 ≠ i) → H.obj i = some o → (LG H L).obj i = some o := fun i o h1 h2 => by rw [Uh L H i h1]; exact h2
 refine ⟨by rw [hn]; exact Nat.le_refl _, by rw [hn]; exact hle, fun i o hi => ?_, fun i o hi => ?_, .inr fun i o hi => ?_, X7 L H⟩
 ·rcases KO L H i with ⟨o1, h1, h2⟩ | ⟨h1, h2⟩
  ·rw [h2] at hi; cases hi; exact (hv _ h1).2.1
  ·rw [h2] at hi; exact he.sub i o (old i o h1 hi)
 ·rw [hn]; rcases KO L H i with ⟨o1, h1, h2⟩ | ⟨h1, h2⟩
  ·exact (hv _ h1).1
  ·rw [h2] at hi; rcases Nat.lt_or_ge i H.next with q | q
   ·exact q
   ·have h3 := he.wf i (by rw [M9]; exact q); rw [old i o h1 hi] at h3; cases h3
 ·rw [hn]; rcases KO L H i with ⟨o1, h1, h2⟩ | ⟨h1, h2⟩
  ·rw [h2] at hi; cases hi; exact .inr (hv _ h1).2.2
  ·rw [h2] at hi; exact .inl hi
theorem aB {α : Type} {f : α → IV} {m : List (List UInt8 × α)} {n : Nat} : NBo n (.map (mE f m)) ↔ ∀ p, p ∈ m → NB n (f p.2) := by
 simp only [NBo, mE, List.mem_map]; constructor
 ·intro h p hp; exact h _ ⟨p, hp, rfl⟩
 ·rintro h e ⟨p, hp, rfl⟩; exact h p hp
theorem aC {α : Type} {j : IntKind} {f : α → IV} {m : List (Int × α)} {n : Nat} : NBo n (.map (mI j f m)) ↔ ∀ p, p ∈ m → NB n (f p.2) := by
 simp only [NBo, mI, List.mem_map]; constructor
 ·intro h p hp; exact h _ ⟨p, hp, rfl⟩
 ·rintro h e ⟨p, hp, rfl⟩; exact h p hp
theorem FO {N : Nat} {o : Oper} {K : IV → A2 → Prop} {Qp : List PanicEntry → A2 → Prop} {ta tb e : TypeId} {d : TypeDesc} {x : Operand} (l : List UInt8) (ho : o.op = .convert ta tb x) (hok : okO N o = true) (ha : P.underlying ta = some d)
    (hb : P.underlying tb = some (.slice e)) (he : P.underlying e = some (.int .u8)) (hx : ev tm x = .v (str l)) (hs : (l.length : Int) ≤ 9223372036854775807) (hK : K (.sl 1 (l.map fun x => [.v (.int .u8 x.toNat)])) H) : AD P N o tm H K Qp :=
  Gj ho hok ha hb he hx (by rw [Ca]; simp only [Cm]; omega) (by rw [Ca]; exact hK)
inductive NzL (n : Nat) : List IV → List IV → Prop
  | nil : NzL n [] []
  | same (a : IV) {l m : List IV} (t : NzL n l m) : NzL n (a :: l) (a :: m)
  | row {l m : List IV} (t : NzL n l m) : NzL n (.v (.slice none 0 0) :: l) (.os n 0 :: m)
theorem NzL.len {n : Nat} {l m : List IV} (h : NzL n l m) : m.length = l.length := by
 induction h with
 | nil => rfl
 | same _ _ ih => simp [ih]
 | row _ ih => simp [ih]
theorem NzL.get {n : Nat} {l m : List IV} (h : NzL n l m) : ∀ (j : Nat) (a b : IV), l[j]? = some a → m[j]? = some b → a = b ∨ (a = .v (.slice none 0 0) ∧ b = .os n 0) := by
 induction h with
 | nil => intro j a b h; simp at h
 | same a _ ih =>
  intro j a b h1 h2; cases j with
  | zero => simp at h1 h2; subst h1; subst h2; exact .inl rfl
  | succ j => exact ih j a b (by simpa using h1) (by simpa using h2)
 | row _ ih =>
  intro j a b h1 h2; cases j with
  | zero => simp at h1 h2; subst h1; subst h2; exact .inr ⟨rfl, rfl⟩
  | succ j => exact ih j a b (by simpa using h1) (by simpa using h2)
theorem Gh.FP {kb sz : Nat} {cs cs' : List IV} (h0 : 0 < sz) (hb : H.obj kb = some (.cells cs)) (h : NzL H.next cs cs') : Gh tm H tm ((H.new (.row sz [])).set kb (.cells cs')) := by
 intro w g s; have hlt : kb < H.next := s.lt kb (by rw [hb]; rfl); have hu := s.upd (w' := w) (H' := H.new (.row sz [])) H.next (.slice none 0 0) (.row sz []) rfl (Nat.le_succ _) (Nat.lt_succ_self _) (Nat.le_refl _) rfl rfl rfl
  (fun b hb => .inr rfl) (fun b hb => by simp [blk] at hb) (.inl rfl) (fun g' m _ => ⟨none, 0, rfl, by simp, by simp [Cm], by simp, h0, .inl ⟨rfl, rfl⟩⟩)
 have hnw : ∀ q, q < H.next → (H.new (.row sz [])).obj q = H.obj q := fun q hq => by
  have h' : ¬ q = H.next := Nat.ne_of_lt hq; simp [A2.new, h']
 refine ⟨_, hu.2, hu.1.MV (o := .cells cs) ((hnw kb hlt).trans hb) rfl ?_, fun a r i hi => (r i hi).mono hu.2⟩; intro ho; obtain ⟨b, xs, el, f, h1, h2, h3, hc⟩ := ho; refine ⟨b, xs, el, f, h1, h2, h3, by rw [h.len]; exact hc.1, fun j c hj => ?_⟩; have hl : j < cs.length := by rw [← h.len]; exact (List.getElem?_eq_some_iff.1 hj).1
 obtain ⟨x, q1, q2, q3⟩ := hc.2 j _ (List.getElem?_eq_getElem hl); refine ⟨x, q1, q2, ?_⟩; rcases h.get j _ c (List.getElem?_eq_getElem hl) hj with e | ⟨e1, e2⟩
 ·rw [← e]; exact q3
 ·rw [e1] at q3; rw [e2, q3.v_eq]; exact CJ (Nat.lt_succ_self _) ⟨none, 0, rfl⟩
@[go_sem] theorem nw {α : Type} {i n : Nat} {a b : α} (h : ¬ i = n) : (if i = n then a else b) = b := if_neg h
def NBL (n : Nat) (l : List IV) : Prop := ∀ c, c ∈ l → NB n c
theorem NBL.nil {n : Nat} : NBL n [] := fun c h => by cases h
theorem NBL.cons {n : Nat} {a : IV} {l : List IV} (h : NB n a) (t : NBL n l) : NBL n (a :: l) := fun c hc => by
  rcases List.mem_cons.1 hc with rfl | hc
  · exact h
  · exact t c hc
theorem NBL.map {n : Nat} {α : Type} {f : α → IV} {l : List α} (h : ∀ x, NB n (f x)) : NBL n (l.map f) := fun c hc => by
  obtain ⟨x, _, rfl⟩ := List.mem_map.1 hc
  exact h x
theorem NBL.app {n : Nat} {l m : List IV} (h : NBL n l) (k : NBL n m) : NBL n (l ++ m) := fun c hc => (List.mem_append.1 hc).elim (h c) (k c)
theorem KP {n sz : Nat} {α : Type} {f : α → List IV} {l : List α} (h : ∀ x, NBL n (f x)) : NB n (.sl sz (l.map f)) := .sl _ _ fun e he c hc => by
  obtain ⟨x, _, rfl⟩ := List.mem_map.1 he
  exact h x c hc
theorem KQ {n : Nat} {l : List IV} (h : NBL n l) : NB n (.ag l) := .ag _ h
theorem Ff {n : Nat} {l : List IV} (h : NBL n l) : NB n (.tu l) := .tu _ h
theorem P_ {n k : Nat} (h : k < n) : NB n (.mp k) := .mp _ h
theorem Ui {n k off : Nat} (h : k < n) : NB n (.p k off) := .p _ _ h
theorem X8 {α : Type} {f : α → IV} {m : List (List UInt8 × α)} {n : Nat} (h : ∀ x, NB n (f x)) : NBo n (.map (mE f m)) := aB.2 fun p _ => h p.2
theorem X9 {α : Type} {j : IntKind} {f : α → IV} {m : List (Int × α)} {n : Nat} (h : ∀ x, NB n (f x)) : NBo n (.map (mI j f m)) := aC.2 fun p _ => h p.2
theorem aD {cs : List IV} {n : Nat} (h : NBL n cs) : NBo n (.cells cs) := h
def noJ (Q : Exit → Tm → A2 → Prop) : Exit → Tm → A2 → Prop
  | .goto _, _, _ => False
  | .normal, tm, H => Q .normal tm H
  | .exit id, tm, H => Q (.exit id) tm H
  | .ret, tm, H => Q .ret tm H
  | .panic ch, tm, H => Q (.panic ch) tm H
  | .outgrown, tm, H => Q .outgrown tm H
@[go_sem] theorem aE : noJ Q .normal tm H = Q .normal tm H := rfl
@[go_sem] theorem lS : noJ Q .ret tm H = Q .ret tm H := rfl
@[go_sem] theorem iR {l : Nat} : noJ Q (.exit l) tm H = Q (.exit l) tm H := rfl
@[go_sem] theorem gu {c : List PanicEntry} : noJ Q (.panic c) tm H = Q (.panic c) tm H := rfl
@[go_sem high] theorem YM {l : Nat} {J : Tm → A2 → Prop} : Gg l J Q (.goto l) tm H = J tm H := by simp [Gg]
theorem Q0 {c rest : Code} (l : Nat) (hf : findLabel c l = some rest) (h : ∀ cb, cb = rest → IWp P N c (Gg l (fun tm H => IWp P N cb (noJ Q) tm H) Q) tm H) : IWp P N (.scope c) Q tm H :=
  Sm l (fun tm H => IWp P N rest (noJ Q) tm H) (fun _ _ => 0) hf (h rest rfl) fun tm H hJ => hJ.mono fun e tm' H' hq => by
    cases e <;> first | exact hq | exact hq.elim
end Go.Idl
namespace Go.Idl
theorem sI {α : Type _} {a b : α} (h : some a = some b) : a = b := Option.some.inj h
theorem io1 {H H' : A2} (k : Nat) (o : HO) (he : Ext (H.del k) H') (h1 : k < H.next) (h2 : H'.obj k = some o) (h3 : NBo H.next o) : BI H H' (BJ H [(k, o)]) := BI.ioL [(k, o)] he (by intro p hp; simp only [List.mem_cons, List.not_mem_nil, or_false] at hp; subst hp; exact ⟨h1, h2, h3⟩)
end Go.Idl

namespace Go.Idl
open Go Go.RowKit Go.Proofs
variable {P : Program} {H : A2} {K : Aw → A2 → Prop}
def Ma (P : Program) (f fk : FuncId) (kt : TypeId) : Prop :=
  ∀ (Bm b nn : Nat) (D0 : DataW Unit) (w : World), Bm < w.heap.size → w.cell? ⟨Bm, 0, none⟩ = some (.map (some b)) → w.ownsMap P kt (fun _ => some (.nil, [])) b nn D0 → Maps.size D0 ≤ maxLen → Maps.size D0 * 16 ≤ 140737488355328 →
    Calls P f #[.func (.func fk) #[] #[.pointer (some ⟨Bm, 0, none⟩)]] w fun e w' => ∃ (v : Value) (ss : List (List UInt8)), e = .returned v ∧ ss.Perm (strKeys D0) ∧
      w'.ownsRow w.heap.size kt 1 v ss.length ((ss.mergeSort leB).map encStr) ∧ (v = .slice none 0 0 ↔ ss = []) ∧ Below w.heap.size w w'
theorem Uj {α : Type} {F : α → IV} {m : List (List UInt8 × α)} {kt : TypeId} (hkt : P.underlying kt = some .string) {w : World} {g : Gs} {ents : Array MapEntry} {clock b : Nat} (hb : w.heap[b]? = some (.map ents clock)) (h : Ek w g ents clock (mE F m)) (hlen : m.length ≤ 1000000) (hk : ∀ p, p ∈ m → p.1.length ≤ 1000000) :
    ∃ D0 : DataW Unit, w.ownsMap P kt (fun _ => some (.nil, [])) b m.length D0 ∧ (strKeys D0).Perm (m.map (·.1)) ∧ Maps.size D0 = m.length := by
 have hsz : ents.size = m.length := by rw [h.size, Sq]
 have hkey : ∀ (i : Nat) (me : MapEntry), ents[i]? = some me → ∃ p, m[i]? = some p ∧ me.key = str p.1 := by
  intro i me hi; have hlt : i < m.length := by rw [← hsz]; exact (Array.getElem?_eq_some_iff.1 hi).1
  refine ⟨m[i], List.getElem?_eq_getElem hlt, ?_⟩; exact (h.ent i me (str m[i].1, F m[i].2) hi (by simp [mE, hlt])).1
 have hreads : ∀ me, me ∈ ents.toList → ∃ p, p ∈ m ∧ me.key = str p.1 ∧ Go.WideElems.rd (H := Unit) P kt (fun _ => some (.nil, [])) me = some (.string p.1, .nil) := by
  intro me hme; obtain ⟨i, hi⟩ := List.getElem?_of_mem hme; obtain ⟨p, h1, h2⟩ := hkey i me (by simpa using hi); have hp := List.mem_of_getElem? h1; refine ⟨p, hp, h2, ?_⟩; have hl := hk p hp; have hs : (⟨p.1.toArray⟩ : ByteArray).size ≤ maxLen := by rw [Bx, Ca]; simp only [maxLen]; omega
  simp [Go.WideElems.rd, keyOf, hkt, mapKey, h2, hs]
 refine ⟨_, ⟨ents, clock, hb, ⟨by rw [hsz]; simp only [maxLen]; omega, ⟨h.born, h.nodup, ?_⟩, fun me hme => let ⟨p, _, _, h3⟩ := hreads me hme; ⟨_, h3⟩⟩, by rw [hsz]; exact Nat.le_refl _, rfl⟩, ?_, ?_⟩
 ·have : ents.toList.map (·.key) = (mE F m).map (·.1) := by
   apply List.ext_getElem?; intro i; simp only [List.getElem?_map, Array.getElem?_toList]; cases hi : ents[i]? with
   | none =>
    have : m.length ≤ i := by rw [← hsz]; exact Array.getElem?_eq_none_iff.1 hi
    simp [mE, this]
   | some me =>
    obtain ⟨p, h1, h2⟩ := hkey i me hi; simp [mE, h1, h2]
  rw [this]; exact h.keys
 ·have hp := Go.WideShapes.sorted_perm (ents.toList.map (Go.WideElems.rg (H := Unit) P kt (fun _ => some (.nil, [])))); refine (hp.map fun p => strOf p.1).trans ?_; rw [List.map_map]; have : ents.toList.map ((fun p : Lit × DataW Unit => strOf p.1) ∘ Go.WideElems.rg (H := Unit) P kt (fun _ => some (.nil, []))) = m.map (·.1) := by
   apply List.ext_getElem?; intro i; simp only [List.getElem?_map, Array.getElem?_toList]; cases hi : ents[i]? with
   | none =>
    have : m.length ≤ i := by rw [← hsz]; exact Array.getElem?_eq_none_iff.1 hi
    simp [this]
   | some me =>
    obtain ⟨p, h1, h2⟩ := hkey i me hi; have hmem : me ∈ ents.toList := by rw [Array.mem_toList_iff]; exact Array.mem_of_getElem? hi
    obtain ⟨q, _, h3, h4⟩ := hreads me hmem; have hpq : q.1 = p.1 := by
     rw [h2] at h3; exact (encStr_inj (x := p.1) (y := q.1) h3).symm
    simp [h1, Go.WideElems.rg_of h4, strOf, hpq]
  rw [this]
 ·show ((ents.toList.map (Go.WideElems.rg (H := Unit) P kt (fun _ => some (.nil, [])))).foldr DataW.insert []).length = _; rw [(Go.WideShapes.sorted_perm _).length_eq]; simp [hsz]
theorem HC {α : Type} {F : α → IV} {f fk : FuncId} {kt : TypeId} (hkt : P.underlying kt = some .string) (hbd : Bl P f = true) (hc : Ma P f fk kt) (m : List (List UInt8 × α)) (kb k : Nat)
    (okb : H.obj kb = some (.cells [.mp k])) (ok : H.obj k = some (.map (mE F m))) (hlen : m.length ≤ 1000000) (hk : ∀ p, p ∈ m → p.1.length ≤ 1000000)
    (hK : ∀ r J, Ext H J → Own J H.next r (Df (m.map (·.1))) → K (.ret r) J) : Ac P f [.fn (.func fk) [] [.p kb 0]] H K := by
 refine ⟨hbd, fun w g vs s rl => ?_⟩; obtain ⟨x, rfl, hx⟩ := args1 rl; obtain ⟨ys, y, rfl, rfl, hy⟩ : ∃ ys y, x = .func (.func fk) #[] ys ∧ ys = #[y] ∧ R w g y (.p kb 0) := by
  cases hx with
  | fn _ xs ys _ _ hl hl' hr hr' =>
   have e1 : xs = #[] := Array.eq_empty_of_size_eq_zero (by simpa using hl); obtain ⟨y, h1, h2⟩ := args1 (w := w) (g := g) (vs := ys) (i := .p kb 0) ⟨hl', hr'⟩; exact ⟨ys, y, by rw [e1], h1, h2⟩
 obtain ⟨bm, xs, el, fz, hmu, rfl, hbm, _, hcs⟩ := s.Hl okb hy; obtain ⟨v0, q1, _, q3⟩ := hcs.2 0 (.mp k) rfl; obtain ⟨b, ents, clock, rfl, _, hb, he⟩ := s.Iw (.inl ok) q3; obtain ⟨D0, hD, hperm, hsz⟩ := Uj (P := P) hkt hb he hlen hk; refine (hc bm b _ D0 w (B8 hbm) (by simp [World.cell?, hbm, q1]) hD (by rw [hsz]; simp only [maxLen]; omega) (by rw [hsz]; omega)).mono ?_
 rintro e w' ⟨v, ss, rfl, hss, hrow, hnil, hbl⟩
 have hp2 : ss.mergeSort leB = Df (m.map (·.1)) := mergeSort_of_perm (hss.trans hperm); have hsl : ss.length = (Df (m.map (·.1))).length := by rw [← hp2, List.length_mergeSort]
 have s' := s.B9 hbl; have m' := AI.B9 (g := g) hbl; rcases hrow.2 with ⟨rfl, h0⟩ | ⟨gb, cap, cur, rfl, hbase, hgb, h1, h2, h3, h4⟩
 ·refine ⟨.ret (.v (.slice none 0 0)), g, H, m', s', .ret _ _ (.v _), hK _ _ (.refl s.wf) (.inl ⟨?_, rfl⟩)⟩; exact List.eq_nil_of_length_eq_zero (by rw [← hsl]; exact h0)
 ·have hne : Df (m.map (·.1)) ≠ [] := by
   intro e; have : ss = [] := List.eq_nil_of_length_eq_zero (by rw [hsl, e]; rfl); have := hnil.2 this; cases this
  have hn := s.new (w' := w') (.pointer (some ⟨gb, 0, none⟩)) (.cells ((Df (m.map (·.1))).map fun s => .v (str s))) hbl.size hbl.os hbl.tape hbl.output (fun b hb => hbl.block b hb)
   (fun b hb => by simp only [blk, Option.some.injEq] at hb; subst hb; exact ⟨B8 hgb, hbase⟩)
   (fun g' mm _ => ⟨gb, cur, kt, (0, 0), rfl, hgb, C2 _, by rw [List.length_map, ← hsl, h3]; omega, fun j c hj => by
     simp only [List.getElem?_map, Option.map_eq_some_iff] at hj
     obtain ⟨t, ht, rfl⟩ := hj
     have hjl : j < ss.length := by rw [hsl]; exact (List.getElem?_eq_some_iff.1 ht).1
     have h5 : (cur.toList.take (ss.length * 1))[j]? = some (str t) := by
       rw [h4, hp2, List.getElem?_map, ht]; rfl
     rw [List.getElem?_take, if_pos (by omega)] at h5
     exact ⟨str t, by simpa using h5, rfl, .v _⟩⟩)
  refine ⟨.ret (.bs H.next 0 ss.length), _, _, hn.2, hn.1, .ret _ _ (.bs _ _ _ _ (by simp [Gs.put]) ⟨_, _, rfl, h1⟩ fun sh hs _ => ⟨gb, cap, by simp [Gs.put], rfl⟩), hK _ _ ((Ext.refl s.wf).new _) (.inr ⟨hne, H.next, Nat.le_refl _, by rw [hsl], by simp [A2.new]⟩)⟩
end Go.Idl
namespace Go.Proofs
open Go.Shelf
def Tryz.Jr : Go.Shelf.Ren := ⟨fun | 156 => 62 | 165 => 97 | 166 => 93 | 169 => 96 | 240 => 128 | 241 => 130 | 276 => 151 | 277 => 153 | n => n, fun | 31 => 30 | 9 => 9 | 3 => 3 | 4 => 4 | 0 => 0 | 20 => 20 | 72 => 144 | 76 => 147 | 70 => 142 | 37 => 131 | 75 => 146 | 127 => 184 | 164 => 204 | 5 => 5 | 80 => 153 | n => n, fun | n => n⟩
theorem Tryz.Xa : Go.Proofs.Lays.n156 Tryz.prog Tryz.Jr := {
  mixed := by kernel_rfl
  f156 := Tryz.func62.trans (congrArg some (by kernel_rfl))
  f165 := Tryz.func97.trans (congrArg some (by kernel_rfl))
  f166 := Tryz.func93.trans (congrArg some (by kernel_rfl))
  f169 := Tryz.func96.trans (congrArg some (by kernel_rfl))
  f240 := Tryz.func128.trans (congrArg some (by kernel_rfl))
  f241 := Tryz.func130.trans (congrArg some (by kernel_rfl))
  f276 := Tryz.func151.trans (congrArg some (by kernel_rfl))
  f277 := Tryz.func153.trans (congrArg some (by kernel_rfl))
  t0 := Tryz.underlying0
  a0 := Tryz.isAgg0
  z0 := Tryz.sizeOf0
  v0 := Tryz.zeroValue0
  t3 := Tryz.underlying3
  a3 := Tryz.isAgg3
  z3 := Tryz.sizeOf3
  v3 := Tryz.zeroValue3
  t4 := Tryz.underlying4
  a4 := Tryz.isAgg4
  z4 := Tryz.sizeOf4
  v4 := Tryz.zeroValue4
  t9 := Tryz.underlying9
  a9 := Tryz.isAgg9
  z9 := Tryz.sizeOf9
  v9 := Tryz.zeroValue9
  t20 := Tryz.underlying20
  a20 := Tryz.isAgg20
  z20 := Tryz.sizeOf20
  v20 := Tryz.zeroValue20
  t31 := Tryz.underlying30
  a31 := Tryz.isAgg30
  z31 := Tryz.sizeOf30
  v31 := Tryz.zeroValue30
  t37 := Tryz.underlying131
  a37 := Tryz.isAgg131
  z37 := Tryz.sizeOf131
  v37 := Tryz.zeroValue131
  t70 := Tryz.underlying142
  a70 := Tryz.isAgg142
  z70 := Tryz.sizeOf142
  v70 := Tryz.zeroValue142
  t72 := Tryz.underlying144
  a72 := Tryz.isAgg144
  z72 := Tryz.sizeOf144
  v72 := Tryz.zeroValue144
  t75 := Tryz.underlying146
  a75 := Tryz.isAgg146
  z75 := Tryz.sizeOf146
  v75 := Tryz.zeroValue146
  t76 := Tryz.underlying147
  a76 := Tryz.isAgg147
  z76 := Tryz.sizeOf147
  v76 := Tryz.zeroValue147
  t127 := Tryz.underlying184
  a127 := Tryz.isAgg184
  z127 := Tryz.sizeOf184
  v127 := Tryz.zeroValue184
  t164 := Tryz.underlying204
  a164 := Tryz.isAgg204
  z164 := Tryz.sizeOf204
  v164 := Tryz.zeroValue204 }
def Tryz.OB : Go.Shelf.Ren := ⟨fun | 147 => 98 | 221 => 131 | 268 => 154 | 138 => 155 | 143 => 156 | 195 => 180 | 197 => 181 | 218 => 182 | 219 => 139 | 260 => 202 | 217 => 158 | 225 => 159 | 224 => 160 | 267 => 161 | 266 => 184 | 314 => 185 | n => n, fun | 9 => 9 | 3 => 3 | 31 => 30 | 4 => 4 | 0 => 0 | 105 => 230 | 21 => 21 | 5 => 5 | 46 => 183 | 119 => 260 | 139 => 263 | 138 => 262 | 146 => 233 | 51 => 222 | n => n, fun | 1 => 0 | 3 => 4 | 4 => 5 | n => n⟩
theorem Tryz.Xb : Go.Proofs.Lays.n147 Tryz.prog Tryz.OB := {
  mixed := by kernel_rfl
  f138 := Tryz.func155.trans (congrArg some (by kernel_rfl))
  f143 := Tryz.func156.trans (congrArg some (by kernel_rfl))
  f147 := Tryz.func98.trans (congrArg some (by kernel_rfl))
  f195 := Tryz.func180.trans (congrArg some (by kernel_rfl))
  f197 := Tryz.func181.trans (congrArg some (by kernel_rfl))
  f217 := Tryz.func158.trans (congrArg some (by kernel_rfl))
  f218 := Tryz.func182.trans (congrArg some (by kernel_rfl))
  f219 := Tryz.func139.trans (congrArg some (by kernel_rfl))
  f221 := Tryz.func131.trans (congrArg some (by kernel_rfl))
  f224 := Tryz.func160.trans (congrArg some (by kernel_rfl))
  f225 := Tryz.func159.trans (congrArg some (by kernel_rfl))
  f260 := Tryz.func202.trans (congrArg some (by kernel_rfl))
  f266 := Tryz.func184.trans (congrArg some (by kernel_rfl))
  f267 := Tryz.func161.trans (congrArg some (by kernel_rfl))
  f268 := Tryz.func154.trans (congrArg some (by kernel_rfl))
  f314 := Tryz.func185.trans (congrArg some (by kernel_rfl))
  t0 := Tryz.underlying0
  a0 := Tryz.isAgg0
  z0 := Tryz.sizeOf0
  v0 := Tryz.zeroValue0
  t3 := Tryz.underlying3
  a3 := Tryz.isAgg3
  z3 := Tryz.sizeOf3
  v3 := Tryz.zeroValue3
  t4 := Tryz.underlying4
  a4 := Tryz.isAgg4
  z4 := Tryz.sizeOf4
  v4 := Tryz.zeroValue4
  t5 := Tryz.underlying5
  a5 := Tryz.isAgg5
  z5 := Tryz.sizeOf5
  v5 := Tryz.zeroValue5
  t9 := Tryz.underlying9
  a9 := Tryz.isAgg9
  z9 := Tryz.sizeOf9
  v9 := Tryz.zeroValue9
  t21 := Tryz.underlying21
  a21 := Tryz.isAgg21
  z21 := Tryz.sizeOf21
  v21 := Tryz.zeroValue21
  t31 := Tryz.underlying30
  a31 := Tryz.isAgg30
  z31 := Tryz.sizeOf30
  v31 := Tryz.zeroValue30
  t46 := Tryz.underlying183
  a46 := Tryz.isAgg183
  z46 := Tryz.sizeOf183
  v46 := Tryz.zeroValue183
  t51 := Tryz.underlying222
  a51 := Tryz.isAgg222
  z51 := Tryz.sizeOf222
  v51 := Tryz.zeroValue222
  t105 := Tryz.underlying230
  a105 := Tryz.isAgg230
  z105 := Tryz.sizeOf230
  v105 := Tryz.zeroValue230
  t119 := Tryz.underlying260
  a119 := Tryz.isAgg260
  z119 := Tryz.sizeOf260
  t138 := Tryz.underlying262
  a138 := Tryz.isAgg262
  z138 := Tryz.sizeOf262
  v138 := Tryz.zeroValue262
  t139 := Tryz.underlying263
  a139 := Tryz.isAgg263
  z139 := Tryz.sizeOf263
  v139 := Tryz.zeroValue263
  t146 := Tryz.underlying233
  a146 := Tryz.isAgg233
  z146 := Tryz.sizeOf233
  v146 := Tryz.zeroValue233
  g1 := by kernel_rfl
  g3 := by kernel_rfl
  g4 := by kernel_rfl }
def Tryz.N4 : Go.Shelf.Ren := ⟨fun | 172 => 141 | 244 => 162 | 245 => 163 | 247 => 186 | 279 => 187 | 280 => 188 | 281 => 189 | 282 => 190 | 287 => 203 | 316 => 204 | 171 => 95 | 205 => 205 | 321 => 209 | 322 => 210 | 243 => 129 | 246 => 152 | 283 => 176 | 284 => 177 | 285 => 178 | 286 => 179 | 129 => 175 | 317 => 198 | 318 => 199 | 319 => 200 | 320 => 201 | 337 => 207 | 338 => 208 | n => n, fun | 9 => 9 | 3 => 3 | 75 => 146 | 76 => 147 | 4 => 4 | 5 => 5 | 167 => 235 | 37 => 131 | 0 => 0 | 85 => 236 | 2 => 2 | 168 => 238 | 53 => 224 | 175 => 252 | 46 => 183 | 210 => 255 | 127 => 184 | 145 => 266 | 143 => 264 | 21 => 21 | 171 => 225 | 173 => 227 | 212 => 249 | 51 => 222 | 20 => 20 | 213 => 250 | 232 => 267 | 233 => 268 | 80 => 153 | n => n, fun | 15 => 2 | 16 => 3 | 17 => 1 | 18 => 6 | 19 => 7 | n => n⟩
theorem Tryz.Uk : Go.Proofs.LaysC.n172 Tryz.prog Tryz.N4 := {
  mixed := by kernel_rfl
  f129 := Tryz.func175.trans (congrArg some (by kernel_rfl))
  f171 := Tryz.func95.trans (congrArg some (by kernel_rfl))
  f172 := Tryz.func141.trans (congrArg some (by kernel_rfl))
  f205 := Tryz.func205.trans (congrArg some (by kernel_rfl))
  f243 := Tryz.func129.trans (congrArg some (by kernel_rfl))
  f244 := Tryz.func162.trans (congrArg some (by kernel_rfl))
  f245 := Tryz.func163.trans (congrArg some (by kernel_rfl))
  f246 := Tryz.func152.trans (congrArg some (by kernel_rfl))
  f247 := Tryz.func186.trans (congrArg some (by kernel_rfl))
  f279 := Tryz.func187.trans (congrArg some (by kernel_rfl))
  f280 := Tryz.func188.trans (congrArg some (by kernel_rfl))
  f281 := Tryz.func189.trans (congrArg some (by kernel_rfl))
  f282 := Tryz.func190.trans (congrArg some (by kernel_rfl))
  f283 := Tryz.func176.trans (congrArg some (by kernel_rfl))
  f284 := Tryz.func177.trans (congrArg some (by kernel_rfl))
  f285 := Tryz.func178.trans (congrArg some (by kernel_rfl))
  f286 := Tryz.func179.trans (congrArg some (by kernel_rfl))
  f287 := Tryz.func203.trans (congrArg some (by kernel_rfl))
  f316 := Tryz.func204.trans (congrArg some (by kernel_rfl))
  f317 := Tryz.func198.trans (congrArg some (by kernel_rfl))
  f318 := Tryz.func199.trans (congrArg some (by kernel_rfl))
  f319 := Tryz.func200.trans (congrArg some (by kernel_rfl))
  f320 := Tryz.func201.trans (congrArg some (by kernel_rfl))
  f321 := Tryz.func209.trans (congrArg some (by kernel_rfl))
  f322 := Tryz.func210.trans (congrArg some (by kernel_rfl))
  f337 := Tryz.func207.trans (congrArg some (by kernel_rfl))
  f338 := Tryz.func208.trans (congrArg some (by kernel_rfl))
  t0 := Tryz.underlying0
  a0 := Tryz.isAgg0
  z0 := Tryz.sizeOf0
  v0 := Tryz.zeroValue0
  t2 := Tryz.underlying2
  a2 := Tryz.isAgg2
  z2 := Tryz.sizeOf2
  v2 := Tryz.zeroValue2
  t3 := Tryz.underlying3
  a3 := Tryz.isAgg3
  z3 := Tryz.sizeOf3
  v3 := Tryz.zeroValue3
  t4 := Tryz.underlying4
  a4 := Tryz.isAgg4
  z4 := Tryz.sizeOf4
  v4 := Tryz.zeroValue4
  t5 := Tryz.underlying5
  a5 := Tryz.isAgg5
  z5 := Tryz.sizeOf5
  v5 := Tryz.zeroValue5
  t9 := Tryz.underlying9
  a9 := Tryz.isAgg9
  z9 := Tryz.sizeOf9
  v9 := Tryz.zeroValue9
  t20 := Tryz.underlying20
  a20 := Tryz.isAgg20
  z20 := Tryz.sizeOf20
  v20 := Tryz.zeroValue20
  t21 := Tryz.underlying21
  a21 := Tryz.isAgg21
  z21 := Tryz.sizeOf21
  v21 := Tryz.zeroValue21
  t37 := Tryz.underlying131
  a37 := Tryz.isAgg131
  z37 := Tryz.sizeOf131
  v37 := Tryz.zeroValue131
  t46 := Tryz.underlying183
  a46 := Tryz.isAgg183
  z46 := Tryz.sizeOf183
  v46 := Tryz.zeroValue183
  t51 := Tryz.underlying222
  a51 := Tryz.isAgg222
  z51 := Tryz.sizeOf222
  v51 := Tryz.zeroValue222
  t53 := Tryz.underlying224
  a53 := Tryz.isAgg224
  z53 := Tryz.sizeOf224
  v53 := Tryz.zeroValue224
  t75 := Tryz.underlying146
  a75 := Tryz.isAgg146
  z75 := Tryz.sizeOf146
  v75 := Tryz.zeroValue146
  t76 := Tryz.underlying147
  a76 := Tryz.isAgg147
  z76 := Tryz.sizeOf147
  v76 := Tryz.zeroValue147
  t85 := Tryz.underlying236
  a85 := Tryz.isAgg236
  z85 := Tryz.sizeOf236
  v85 := Tryz.zeroValue236
  t127 := Tryz.underlying184
  a127 := Tryz.isAgg184
  z127 := Tryz.sizeOf184
  v127 := Tryz.zeroValue184
  t143 := Tryz.underlying264
  a143 := Tryz.isAgg264
  z143 := Tryz.sizeOf264
  v143 := Tryz.zeroValue264
  t145 := Tryz.underlying266
  a145 := Tryz.isAgg266
  z145 := Tryz.sizeOf266
  v145 := Tryz.zeroValue266
  t167 := Tryz.underlying235
  a167 := Tryz.isAgg235
  z167 := Tryz.sizeOf235
  v167 := Tryz.zeroValue235
  t168 := Tryz.underlying238
  a168 := Tryz.isAgg238
  z168 := Tryz.sizeOf238
  v168 := Tryz.zeroValue238
  t171 := Tryz.underlying225
  a171 := Tryz.isAgg225
  z171 := Tryz.sizeOf225
  v171 := Tryz.zeroValue225
  t173 := Tryz.underlying227
  a173 := Tryz.isAgg227
  z173 := Tryz.sizeOf227
  v173 := Tryz.zeroValue227
  t175 := Tryz.underlying252
  a175 := Tryz.isAgg252
  z175 := Tryz.sizeOf252
  v175 := Tryz.zeroValue252
  t210 := Tryz.underlying255
  a210 := Tryz.isAgg255
  z210 := Tryz.sizeOf255
  v210 := Tryz.zeroValue255
  t212 := Tryz.underlying249
  a212 := Tryz.isAgg249
  z212 := Tryz.sizeOf249
  v212 := Tryz.zeroValue249
  t213 := Tryz.underlying250
  a213 := Tryz.isAgg250
  z213 := Tryz.sizeOf250
  t232 := Tryz.underlying267
  a232 := Tryz.isAgg267
  z232 := Tryz.sizeOf267
  v232 := Tryz.zeroValue267
  t233 := Tryz.underlying268
  a233 := Tryz.isAgg268
  z233 := Tryz.sizeOf268
  v233 := Tryz.zeroValue268
  g15 := by kernel_rfl
  g16 := by kernel_rfl
  g17 := by kernel_rfl
  g18 := by kernel_rfl
  g19 := by kernel_rfl
  t80 := Tryz.underlying153
  a80 := Tryz.isAgg153
  z80 := Tryz.sizeOf153
  v80 := Tryz.zeroValue153
  i0 := by kernel_rfl
  i2 := by kernel_rfl
  i3 := by kernel_rfl
  i4 := by kernel_rfl
  i5 := by kernel_rfl
  i9 := by kernel_rfl
  i20 := by kernel_rfl
  i21 := by kernel_rfl
  i37 := by kernel_rfl
  i46 := by kernel_rfl
  i51 := by kernel_rfl
  i53 := by kernel_rfl
  i75 := by kernel_rfl
  i76 := by kernel_rfl
  i80 := by kernel_rfl
  i85 := by kernel_rfl
  i127 := by kernel_rfl
  i143 := by kernel_rfl
  i145 := by kernel_rfl
  i167 := by kernel_rfl
  i168 := by kernel_rfl
  i171 := by kernel_rfl
  i173 := by kernel_rfl
  i175 := by kernel_rfl
  i210 := by kernel_rfl
  i212 := by kernel_rfl
  i232 := by kernel_rfl
  i233 := by kernel_rfl
  m15 := by kernel_rfl
  m16 := by kernel_rfl
  m17 := by kernel_rfl
  m18 := by kernel_rfl
  m19 := by kernel_rfl
  c0 := by kernel_rfl
  c2 := by kernel_rfl
  c3 := by kernel_rfl
  c4 := by kernel_rfl
  c5 := by kernel_rfl
  c9 := by kernel_rfl
  c20 := by kernel_rfl
  c21 := by kernel_rfl
  c37 := by kernel_rfl
  c46 := by kernel_rfl
  c51 := by kernel_rfl
  c53 := by kernel_rfl
  c75 := by kernel_rfl
  c76 := by kernel_rfl
  c80 := by kernel_rfl
  c85 := by kernel_rfl
  c127 := by kernel_rfl
  c143 := by kernel_rfl
  c145 := by kernel_rfl
  c167 := by kernel_rfl
  c168 := by kernel_rfl
  c171 := by kernel_rfl
  c173 := by kernel_rfl
  c175 := by kernel_rfl
  c210 := by kernel_rfl
  c212 := by kernel_rfl
  c213 := by kernel_rfl
  c232 := by kernel_rfl
  c233 := by kernel_rfl }
def Tryz.OC : Go.Shelf.Ren := ⟨fun | 145 => 65 | 220 => 101 | 219 => 139 | 217 => 158 | 225 => 159 | 224 => 160 | 267 => 161 | 266 => 184 | 314 => 185 | n => n, fun | 9 => 9 | 4 => 4 | 59 => 118 | 3 => 3 | 5 => 5 | 46 => 183 | 146 => 233 | 51 => 222 | n => n, fun | 1 => 0 | n => n⟩
theorem Tryz.Xc : Go.Proofs.Lays.n145 Tryz.prog Tryz.OC := {
  mixed := by kernel_rfl
  f145 := Tryz.func65.trans (congrArg some (by kernel_rfl))
  f217 := Tryz.func158.trans (congrArg some (by kernel_rfl))
  f219 := Tryz.func139.trans (congrArg some (by kernel_rfl))
  f220 := Tryz.func101.trans (congrArg some (by kernel_rfl))
  f224 := Tryz.func160.trans (congrArg some (by kernel_rfl))
  f225 := Tryz.func159.trans (congrArg some (by kernel_rfl))
  f266 := Tryz.func184.trans (congrArg some (by kernel_rfl))
  f267 := Tryz.func161.trans (congrArg some (by kernel_rfl))
  f314 := Tryz.func185.trans (congrArg some (by kernel_rfl))
  t3 := Tryz.underlying3
  a3 := Tryz.isAgg3
  z3 := Tryz.sizeOf3
  v3 := Tryz.zeroValue3
  t4 := Tryz.underlying4
  a4 := Tryz.isAgg4
  z4 := Tryz.sizeOf4
  v4 := Tryz.zeroValue4
  t5 := Tryz.underlying5
  a5 := Tryz.isAgg5
  z5 := Tryz.sizeOf5
  v5 := Tryz.zeroValue5
  t9 := Tryz.underlying9
  a9 := Tryz.isAgg9
  z9 := Tryz.sizeOf9
  v9 := Tryz.zeroValue9
  t46 := Tryz.underlying183
  a46 := Tryz.isAgg183
  z46 := Tryz.sizeOf183
  v46 := Tryz.zeroValue183
  t51 := Tryz.underlying222
  a51 := Tryz.isAgg222
  z51 := Tryz.sizeOf222
  v51 := Tryz.zeroValue222
  t59 := Tryz.underlying118
  a59 := Tryz.isAgg118
  z59 := Tryz.sizeOf118
  v59 := Tryz.zeroValue118
  t146 := Tryz.underlying233
  a146 := Tryz.isAgg233
  z146 := Tryz.sizeOf233
  v146 := Tryz.zeroValue233
  g1 := by kernel_rfl }
def Tryz.N5 : Go.Shelf.Ren := ⟨fun | 145 => 65 | 220 => 101 | 219 => 139 | 217 => 158 | 225 => 159 | 224 => 160 | 267 => 161 | 266 => 184 | 314 => 185 | n => n, fun | 9 => 9 | 4 => 4 | 59 => 118 | 3 => 3 | 5 => 5 | 46 => 183 | 146 => 233 | 51 => 222 | n => n, fun | 1 => 0 | n => n⟩
theorem Tryz.Ul : Go.Proofs.LaysM.n145 Tryz.prog Tryz.N5 := {
  mixed := by kernel_rfl
  f145 := Tryz.func65.trans (congrArg some (by kernel_rfl))
  f217 := Tryz.func158.trans (congrArg some (by kernel_rfl))
  f219 := Tryz.func139.trans (congrArg some (by kernel_rfl))
  f220 := Tryz.func101.trans (congrArg some (by kernel_rfl))
  f224 := Tryz.func160.trans (congrArg some (by kernel_rfl))
  f225 := Tryz.func159.trans (congrArg some (by kernel_rfl))
  f266 := Tryz.func184.trans (congrArg some (by kernel_rfl))
  f267 := Tryz.func161.trans (congrArg some (by kernel_rfl))
  f314 := Tryz.func185.trans (congrArg some (by kernel_rfl))
  t3 := Tryz.underlying3
  a3 := Tryz.isAgg3
  z3 := Tryz.sizeOf3
  v3 := Tryz.zeroValue3
  t4 := Tryz.underlying4
  a4 := Tryz.isAgg4
  z4 := Tryz.sizeOf4
  v4 := Tryz.zeroValue4
  t5 := Tryz.underlying5
  a5 := Tryz.isAgg5
  z5 := Tryz.sizeOf5
  v5 := Tryz.zeroValue5
  t9 := Tryz.underlying9
  a9 := Tryz.isAgg9
  z9 := Tryz.sizeOf9
  v9 := Tryz.zeroValue9
  t46 := Tryz.underlying183
  a46 := Tryz.isAgg183
  z46 := Tryz.sizeOf183
  v46 := Tryz.zeroValue183
  t51 := Tryz.underlying222
  a51 := Tryz.isAgg222
  z51 := Tryz.sizeOf222
  v51 := Tryz.zeroValue222
  t59 := Tryz.underlying118
  a59 := Tryz.isAgg118
  z59 := Tryz.sizeOf118
  v59 := Tryz.zeroValue118
  t146 := Tryz.underlying233
  a146 := Tryz.isAgg233
  z146 := Tryz.sizeOf233
  v146 := Tryz.zeroValue233
  g1 := by kernel_rfl
  i3 := by kernel_rfl
  i4 := by kernel_rfl
  i5 := by kernel_rfl
  i9 := by kernel_rfl
  i46 := by kernel_rfl
  i51 := by kernel_rfl
  i59 := by kernel_rfl
  i146 := by kernel_rfl
  m1 := by kernel_rfl
  s1_3 := fun w h => Go.Proofs.cell_of_shapedOpen_int (zero := #[.int .i64 0]) (t := 3) h (of_decide_eq_true (by kernel_rfl)) (by kernel_rfl) rfl (by kernel_rfl) (by kernel_rfl) Tryz.underlying3 }
end Go.Proofs
namespace Go.Idl
open Go Go.RowKit
variable {P : Program} {N : Nat} {tm : Tm} {H : A2} {Q : Exit → Tm → A2 → Prop}
theorem KR {o : Oper} {K : IV → A2 → Prop} {Qp : List PanicEntry → A2 → Prop} {ta tb e : TypeId} {d : TypeDesc} {x : Operand} (l : List UInt8) (ho : o.op = .convert ta tb x) (hok : okO N o = true) (ha : P.underlying ta = some d)
    (hb : P.underlying tb = some (.slice e)) (he : P.underlying e = some (.int .u8)) (hx : ev tm x = .v (str l)) (hK : K (.bs H.next 0 l.length) (H.new (.cells (l.map fun x => .v (.int .u8 x.toNat))))) : AD P N o tm H K Qp := by
 obtain ⟨dst, op, type, pos, after, guard⟩ := o; simp only at ho; subst ho; refine B3 (by simp) fun w g a sm r hN => ?_; subst hN; have rx := r.ev (x := x) (by simp [okO, Op.operands] at hok; exact hok.1); rw [hx] at rx; have hxe := rx.v_eq; obtain ⟨w', cap, xs, f, h1, h2, h3, h4, h5, h6, h7, h8, h9, h10, h11⟩ := Jq (P := P) (e := e) ⟨l.toArray⟩ w; have hsz : (⟨l.toArray⟩ : ByteArray).size = l.length := by rw [Bx, Ca]
 rw [Ca] at h11; rw [hsz] at h1 h2 h11; have hn := sm.new (w' := w') (.pointer (some ⟨w.heap.size, 0, none⟩)) (.cells (l.map fun x => .v (.int .u8 x.toNat))) (Nat.le_of_lt h3) h4 h5 h6 h7
  (fun b hb => by simp only [blk, Option.some.injEq] at hb; subst hb; exact ⟨h3, Nat.le_refl _⟩)
  (fun g' m _ => ⟨w.heap.size, xs, e, f, rfl, h8, h10, by rw [List.length_map, h9]; exact h2, fun j c hj => by
    have hjl : j < l.length := by
      have := (List.getElem?_eq_some_iff.1 hj).1
      simpa using this
    refine ⟨_, h11 j hjl, rfl, ?_⟩
    simp only [List.getElem?_map, Option.map_eq_some_iff] at hj
    obtain ⟨b, hb', rfl⟩ := hj
    rw [List.getD_eq_getElem?_getD, hb']
    exact .v _⟩)
 refine ⟨.slice (some ⟨w.heap.size, 0, none⟩) l.length cap, w', _, _, _, .inl ?_, hn.2, hn.1, ?_, hK⟩
 ·simp [execOp, convert, hxe, run_underlying ha, run_underlying hb, run_underlying he, h1]
 ·refine .bs _ _ _ _ (by simp [Gs.put]) ⟨_, _, rfl, h2⟩ fun s hs _ => ?_; exact ⟨w.heap.size, cap, by simp [Gs.put], rfl⟩
theorem Xd {J : A2} : ∀ {cs : List IV}, (∀ c, c ∈ cs → NB J.next c) → ∀ (j : Nat) (c c' : IV), cs[j]? = some c → cs[j]? = some c' → Fz H J c c' := fun h j c c' h1 h2 => by
  rw [h1] at h2
  cases h2
  exact .wk _ _ (fun _ _ _ h => h) (h c (List.mem_of_getElem? h1))
theorem Gh.Xe {d k n : Nat} {cs : List IV} (hk : H.obj k = some (.cells cs)) (hd : tm d = .bs k 0 n) (hn : n = cs.length) (hm : n ≤ Cm) : Gh tm H (upd tm d (.sl 1 (cs.map fun x => [x]))) (H.del k) := by
 intro w g s; have he := Kn H s.wf k; obtain ⟨s1, m1⟩ := he.sim s (.refl w g) s; refine ⟨_, m1, s1, fun a r i hi => ?_⟩; show R w _ _ (if i = d then _ else _); by_cases e : i = d
 ·rw [if_pos e]; subst e; have h1 := r i hi; rw [hd] at h1; have hnb := (s.obj k _ hk).nb; rw [s.nx] at hnb; have hz : Fz H (H.del k) (.bs k 0 n) (.sl 1 (chunks 1 n (cs.drop 0))) := .bs k 0 n 1 cs cs (by simp [A2.del]) hk rfl (by omega) hm (Xd hnb); rw [List.drop_zero, DK (by omega)] at hz; exact hz.sound s he.sub h1
 ·rw [if_neg e]; have h1 := r i hi; refine h1.to (he.sub.sh s) ?_; have := h1.nb
  rwa [s.nx] at this
end Go.Idl
namespace Go.Idl
open Go Go.RowKit
variable {P : Program} {N : Nat} {tm : Tm} {H0 H H1 : A2} {K : Aw → A2 → Prop}
theorem vcK {c : Code} {Q : Exit → Tm → A2 → Prop} (h : vc P N c Q tm H) (hc : JB N c = true := by kernel_rfl) : IWp P N c Q tm H := AF _ hc _ _ _ h
end Go.Idl
namespace Go.Idl
open Go Go.RowKit
variable {P : Program} {N : Nat} {tm : Tm} {H : A2} {Q : Exit → Tm → A2 → Prop}
def GI {σ ρ α : Type} (step : α → σ → Option (σ ⊕ ρ)) : List α → σ → Option (σ ⊕ ρ)
  | [], s => some (.inl s)
  | a :: l, s => (step a s).bind fun x => Sum.elim (fun s' => GI step l s') (fun r => some (.inr r)) x
theorem Q1 {σ ρ α : Type} {step : α → σ → Option (σ ⊕ ρ)} {s : σ} : GI step [] s = some (.inl s) := rfl
theorem Fg {σ ρ α : Type} {step : α → σ → Option (σ ⊕ ρ)} {a : α} {l : List α} {s : σ} : GI step (a :: l) s = (step a s).bind fun x => Sum.elim (fun s' => GI step l s') (fun r => some (.inr r)) x := rfl
def Fh {σ ρ α : Type} (step : α → σ → Option (σ ⊕ ρ)) (K : σ → ρ) (l : List α) (s : σ) : Option ρ := (GI step l s).map (Sum.elim K id)
def DN {α : Type} (l : List α) : List (Int × α) := l.zipIdx.map fun p => ((p.2 : Int), p.1)
def II {σ ρ : Type} (x : σ ⊕ ρ) (I : σ → Tm → A2 → Prop) (J : Exit → A2 → Prop) : Exit → Tm → A2 → Prop
  | .normal, tm, H => R6 x I tm H
  | .ret, _, H => J .ret H
  | .exit id, _, H => J (.exit id) H
  | .goto t, _, H => J (.goto t) H
  | .panic _, _, _ => False
  | .outgrown, _, _ => False
section
variable {σ ρ : Type} {x : σ ⊕ ρ} {I : σ → Tm → A2 → Prop} {J : Exit → A2 → Prop} {id l : Nat}
@[go_sem] theorem iS : II x I J .normal tm H = R6 x I tm H := rfl
@[go_sem] theorem iT : II x I J .ret tm H = J .ret H := rfl
@[go_sem] theorem iU : II x I J (.exit id) tm H = J (.exit id) H := rfl
@[go_sem] theorem iV : II x I J (.goto l) tm H = J (.goto l) H := rfl
end
theorem Ex {σ ρ α : Type} {gop : Operand} {ps : Array Tmp} {assign body : Code} {gf : FuncId} {cap : List IV} {C : List (Nat × HO)} {step : α → σ → Option (σ ⊕ ρ)} {l : List α} {enc : α → List IV} {K : σ → ρ} {s : σ} {y : ρ}
    (I : σ → Tm → A2 → Prop) (hr : Fh step K l s = some y) (hgN : opd N gop = true) (hg : fnP (ev tm gop) = some (gf, cap)) (hit : Iter P gf cap (l.map enc) C) (h0 : I s tm H)
    (hI : ∀ s tm tm' Hu, I s tm Hu → I s tm' Hu) (hC : ∀ s tm Hu, I s tm Hu → ∀ p, p ∈ C → Hu.obj p.1 = some p.2) (hps : ∀ a, (enc a).length = ps.size)
    (round : ∀ I', I' = I → ∀ a s x Hu, I s tm Hu → step a s = some x → (∀ r, x = .inr r → r = y) →
      IWp P N assign (CC (fun tm' H' => IWp P N body (II x I' (fun e H2 => Q e tm H2.skip)) tm' H') noQ) (BV tm ps.toList (enc a)) Hu.skip)
    (hend : ∀ s Hu, I s tm Hu → K s = y → Q .normal tm Hu.skip) : IWp P N (.rangeFunc gop ps assign body) Q tm H := by
 obtain ⟨z, hr, hz⟩ := Option.map_eq_some_iff.1 hr; refine CV (xs := l.map enc) (C := C) hgN hg hit (fun i Hu => ∃ s, I s tm Hu ∧ GI step (l.drop i) s = some z) ⟨s, h0, by simpa using hr⟩ (fun i Hu ⟨s, h, _⟩ => hC s tm Hu h) ?_ ?_ ?_
 ·intro args h; obtain ⟨a, _, rfl⟩ := List.mem_map.1 h; exact hps a
 ·rintro i args Hu hx ⟨s, h1, h2⟩
  rw [List.getElem?_map, Option.map_eq_some_iff] at hx; obtain ⟨a, ha, rfl⟩ := hx; have hlt := (List.getElem?_eq_some_iff.1 ha).1; have hd : l.drop i = a :: l.drop (i + 1) := by
   rw [List.drop_eq_getElem_cons hlt]; congr 1; exact (List.getElem?_eq_some_iff.1 ha).2
  rw [hd, Fg] at h2; obtain ⟨x, hx, h3⟩ := Option.bind_eq_some_iff.1 h2; refine (round I rfl a s x Hu h1 hx fun r hr => ?_).mono ?_
  ·subst hr; have e : Sum.inr r = z := by simpa using h3
   subst e; exact hz
  ·intro e tm' H' hq; cases e with
   | normal =>
    refine IWp.up ((show IWp P N body (II x I (fun e H2 => Q e tm H2.skip)) tm' H' from hq).mono fun e tm2 H2 hq2 => ?_); cases e with
    | normal =>
     obtain ⟨s', hs, tm3, H3, hg3, hi3⟩ := hq2; subst hs; exact ⟨tm3, H3, hg3, s', hI _ _ _ _ hi3, by simpa using h3⟩
    | ret => exact ⟨tm2, H2, .refl _ _, hq2⟩
    | exit id => exact ⟨tm2, H2, .refl _ _, hq2⟩
    | goto id => exact ⟨tm2, H2, .refl _ _, hq2⟩
    | panic ch => exact False.elim hq2
    | outgrown => exact False.elim hq2
   | ret => exact False.elim hq
   | exit id => exact False.elim hq
   | goto id => exact False.elim hq
   | panic ch => exact False.elim hq
   | outgrown => exact False.elim hq
 ·rintro Hu ⟨s, h1, h2⟩
  rw [List.length_map, List.drop_of_length_le (Nat.le_refl _), Q1] at h2; have e := Option.some.inj h2; subst e; exact hend s Hu h1 hz
attribute [go_sem] BV
def AT {α : Type} (f : α → List IV) : Option α → IV
  | none => .v (.pointer none)
  | some x => .cp (f x)
@[go_sem] theorem Sy {α : Type} {f : α → List IV} {x : α} : AT f (some x) = .cp (f x) := rfl
@[go_sem] theorem Sz {α : Type} {f : α → List IV} : AT f none = .v (.pointer none) := rfl
theorem Um {α : Type} {f : α → List IV} {o : Option α} {d : α} (h : o.isSome = true) : AT f o = .cp (f (o.getD d)) := by
 cases o with
 | none => cases h
 | some x => rfl
theorem N6 {α : Type} {f : α → List IV} {o : Option α} {n : Nat} (h : ∀ x, NB n (.cp (f x))) : NB n (AT f o) := by
 cases o with
 | none => exact .v _
 | some x => exact h x
end Go.Idl
namespace Go.Idl
open Go Go.RowKit
variable {P : Program} {N : Nat} {tm : Tm} {H : A2} {Q : Exit → Tm → A2 → Prop}
def newL (H : A2) : List HO → A2
  | [] => H
  | o :: os => newL (H.new o) os
@[go_sem] theorem Un : newL H [] = H := rfl
@[go_sem] theorem Mb {o : HO} {os : List HO} : newL H (o :: os) = newL (H.new o) os := rfl
theorem SA (os : List HO) : ∀ H : A2, (newL H os).next = H.next + os.length := by
 induction os with
 | nil => intro H; rfl
 | cons o os ih => intro H; rw [Mb, ih, Ky, List.length_cons]; omega
theorem Xf (os : List HO) : ∀ H : A2, (newL H os).sn = H.sn := by
 induction os with
 | nil => intro H; rfl
 | cons o os ih => intro H; exact ih _
theorem Uo (os : List HO) : ∀ (H : A2) (i : Nat), (newL H os).obj i = if i < H.next then H.obj i else (match os[i - H.next]? with | some o => some o | none => H.obj i) := by
 induction os with
 | nil => intro H i; simp [Un]
 | cons o os ih =>
  intro H i; rw [Mb, ih]; rcases Nat.lt_trichotomy i H.next with h | h | h
  ·have h1 : i < (H.new o).next := Nat.lt_succ_of_lt h; have h2 : ¬ i = H.next := by omega
   rw [if_pos h1, KK h2, if_pos h]
  ·subst h; have h1 : H.next < (H.new o).next := Nat.lt_succ_self _; have h2 : ¬ H.next < H.next := Nat.lt_irrefl _; rw [if_pos h1, WU, if_pos rfl, if_neg h2]; simp
  ·have h1 : ¬ i < (H.new o).next := by rw [Ky]; omega
   have h2 : ¬ i < H.next := by omega
   have h3 : ¬ i = H.next := by omega
   have e : i - H.next = (i - (H.next + 1)) + 1 := by omega
   rw [if_neg h1, if_neg h2, e, List.getElem?_cons_succ, KK h3, Ky]
def DA (n : Nat) (ks : List Nat) (i : Nat) : Nat := if i < n then i else ks.getD (i - n) 0
theorem Ext.iW {H0 H1 H' : A2} (he : Ext H0 H') (hw : H1.Wf) (hn : H1.next = H0.next) (hs : H1.sn = H0.sn) {ks : List Nat} {os : List HO} (hl : ks.length = os.length)
    (h1 : ∀ i o, H1.obj i = some o → (H0.obj i = some o) ∨ (H'.obj i = some o ∧ NBo H0.next o)) (h1' : ∀ i o, H1.obj i = some o → H'.obj i = some o)
    (hk : ∀ (i k : Nat) (o' : HO), ks[i]? = some k → os[i]? = some o' → H0.next ≤ k ∧ k < H'.next ∧ ∃ o, H'.obj k = some o ∧ RnO H' (newL H1 os) (DA H0.next ks) H0.next o o')
    (nd : ks.Nodup) : IC H0 H' (newL H1 os) (DA H0.next ks) := by
 have nx : (newL H1 os).next = H0.next + os.length := by rw [SA, hn]
 have get : ∀ i o, (newL H1 os).obj i = some o → (i < H0.next ∧ H1.obj i = some o) ∨ (H0.next ≤ i ∧ os[i - H0.next]? = some o) := by
  intro i o hi; rw [Uo, hn] at hi; split at hi
  ·rename_i e; exact .inl ⟨e, hi⟩
  ·rename_i e; split at hi
   ·rename_i o2 q; cases hi; exact .inr ⟨by omega, q⟩
   ·rw [hw i (by omega)] at hi; cases hi
 have rho_hi : ∀ i, H0.next ≤ i → i - H0.next < ks.length → ks[i - H0.next]? = some (DA H0.next ks i) := by
  intro i h1 h2; rw [DA, if_neg (by omega), List.getD_eq_getElem?_getD, List.getElem?_eq_getElem h2]; rfl
 refine ⟨by rw [nx]; omega, fun k hk2 => by rw [DA, if_pos hk2], he.le, fun k o hk2 => ?_, fun k hk2 => ?_, fun k k' q q' e => ?_, fun k o' hk' => ?_, by rw [Xf, hs]⟩
 ·rw [nx]; rcases get k o hk2 with ⟨q, _⟩ | ⟨q, q2⟩
  ·omega
  ·have := (List.getElem?_eq_some_iff.1 q2).1; omega
 ·rw [nx] at hk2; rcases Nat.lt_or_ge k H0.next with q | q
  ·rw [DA, if_pos q]; exact Nat.lt_of_lt_of_le q he.le
  ·have h2 : k - H0.next < os.length := by omega
   have h3 := rho_hi k q (by omega); exact (hk _ _ _ h3 (List.getElem?_eq_getElem h2)).2.1
 ·obtain ⟨o, ho⟩ := Option.isSome_iff_exists.1 q; obtain ⟨o', ho'⟩ := Option.isSome_iff_exists.1 q'; rcases get k o ho with ⟨a, _⟩ | ⟨a, a2⟩ <;> rcases get k' o' ho' with ⟨b, _⟩ | ⟨b, b2⟩
  ·rw [DA, if_pos a, DA, if_pos b] at e; exact e
  ·have := (List.getElem?_eq_some_iff.1 b2).1; have h3 := rho_hi k' b (by omega); have := (hk _ _ _ h3 b2).1; rw [← e, DA, if_pos a] at this; omega
  ·have := (List.getElem?_eq_some_iff.1 a2).1; have h3 := rho_hi k a (by omega); have := (hk _ _ _ h3 a2).1; rw [e, DA, if_pos b] at this; omega
  ·have l1 := (List.getElem?_eq_some_iff.1 a2).1; have l2 := (List.getElem?_eq_some_iff.1 b2).1; have h3 := rho_hi k a (by omega); have h4 := rho_hi k' b (by omega); rw [e] at h3; have e1 := (List.getElem?_eq_some_iff.1 h3); have e2 := (List.getElem?_eq_some_iff.1 h4); obtain ⟨q1, e1⟩ := e1; obtain ⟨q2, e2⟩ := e2; have := (List.getElem_inj nd).1 (e1.trans e2.symm); omega
 ·rcases get k o' hk' with ⟨a, a2⟩ | ⟨a, a2⟩
  ·have e : DA H0.next ks k = k := by rw [DA, if_pos a]
   rw [e]; rcases h1 k o' a2 with h | ⟨h, hb⟩
   ·exact .inl ⟨h, h1' k o' a2⟩
   ·exact .inr ⟨o', h, .same _ hb⟩
  ·have l1 := (List.getElem?_eq_some_iff.1 a2).1; obtain ⟨_, _, o, h4, h5⟩ := hk _ _ _ (rho_hi k a (by omega)) a2; exact .inr ⟨o, h4, h5⟩
theorem N7 {H0 H' J : A2} {ρ : Nat → Nat} {K : Aw → A2 → Prop} {r r1 r' : IV} (e : r1 = r) (h : IC H0 H' J ρ) (hr : Rn H' J ρ H0.next r r') (hK : K (.ret r') J) : Km r1 H0 K H' := by
 subst e; exact .inr ⟨r', J, .inr (h.mP hr), hK⟩
inductive FzP (k : Nat) (ck : List IV) : IV → IV → Prop
  | same (a : IV) : FzP k ck a a
  | p : FzP k ck (.p k 0) (.cp ck)
inductive HD (k : Nat) (ck : List IV) : List IV → List IV → Prop
  | nil : HD k ck [] []
  | cons {a b : IV} {l m : List IV} (h : FzP k ck a b) (t : HD k ck l m) : HD k ck (a :: l) (b :: m)
theorem HD.len {k : Nat} {ck l m : List IV} (h : HD k ck l m) : m.length = l.length := by
 induction h with
 | nil => rfl
 | cons _ _ ih => simp [ih]
theorem HD.get {k : Nat} {ck l m : List IV} (h : HD k ck l m) : ∀ (j : Nat) (a b : IV), l[j]? = some a → m[j]? = some b → FzP k ck a b := by
 induction h with
 | nil => intro j a b h; simp at h
 | cons h _ ih =>
  intro j a b h1 h2; cases j with
  | zero => simp at h1 h2; subst h1; subst h2; exact h
  | succ j => exact ih j a b (by simpa using h1) (by simpa using h2)
theorem FzP.sound {w : World} {g : Gs} (s : Sim w g H) {k : Nat} {ck : List IV} (hk : H.obj k = some (.cells ck)) {a b : IV} (h : FzP k ck a b) {x : Value} (hx : R w g x a) : R w (g.to (H.del k)) x b := by
 cases h with
 | same => exact s.YH k hx
 | p =>
  have hnb := (s.obj k _ hk).nb; rw [s.nx] at hnb; exact (Fz.ptr (H := H) (J := H.del k) (by simp [A2.del]) hk fun c hc => hnb c hc).sound s (R2 k) hx
theorem Gh.Uq {k kb : Nat} {ck cs cs' : List IV} (hk : H.obj k = some (.cells ck)) (hb : H.obj kb = some (.cells cs)) (hne : ¬ kb = k) (h : HD k ck cs cs') : Gh tm H tm ((H.del k).set kb (.cells cs')) := fun w g s => by
  obtain ⟨s1, m1⟩ := s.ZT k
  refine ⟨_, m1, s1.MV (o := .cells cs) (by simp [A2.del, hne, hb]) rfl ?_, fun a r i hi => (r i hi).mono m1⟩
  intro _
  obtain ⟨b, xs, el, f, h1, h2, h3, hc⟩ := s.obj kb _ hb
  refine ⟨b, xs, el, f, h1, h2, h3, by rw [h.len]; exact hc.1, fun j c hj => ?_⟩
  have hlt : j < cs.length := by rw [← h.len]; exact (List.getElem?_eq_some_iff.1 hj).1
  obtain ⟨x, q1, q2, q3⟩ := hc.2 j _ (List.getElem?_eq_getElem hlt)
  exact ⟨x, q1, q2, (h.get j _ c (List.getElem?_eq_getElem hlt) hj).sound s hk q3⟩
theorem R8 {n : Nat} {l : List IV} (h : NBL n l) : ∀ c, c ∈ l → NB n c := h
theorem Xg {J : A2} {k sz : Nat} (hk : J.obj k = none) (ho : H.obj k = some (.cells [.v (.slice none 0 0)])) : Fz H J (.p k 0) (.cp [.sl sz []]) :=
  .p k 0 [.v (.slice none 0 0)] [.sl sz []] hk ho rfl fun j c c' h1 h2 => by
    cases j with
    | zero => simp at h1 h2; subst h1; subst h2; exact .wk _ _ (Wk.nil sz) (.sl _ _ (by simp))
    | succ j => simp at h1
theorem Rn.pE {J : A2} {ρ : Nat → Nat} {m k k' off : Nat} (e : ρ k = k') (h : k < J.next) : Rn H J ρ m (.p k' off) (.p k off) := by subst e; exact .p k off h
theorem Rn.mpE {J : A2} {ρ : Nat → Nat} {m k k' : Nat} (e : ρ k = k') (h : k < J.next) : Rn H J ρ m (.mp k') (.mp k) := by subst e; exact .mp k h
inductive NwL (H' J : A2) (ρ : Nat → Nat) (n : Nat) : List Nat → List HO → Prop
  | nil : NwL H' J ρ n [] []
  | cons {k : Nat} {o o' : HO} {ks : List Nat} {os : List HO} (lo : n ≤ k) (lt : k < H'.next) (h : H'.obj k = some o) (r : RnO H' J ρ n o o') (t : NwL H' J ρ n ks os) : NwL H' J ρ n (k :: ks) (o' :: os)
theorem NwL.len {H' J : A2} {ρ : Nat → Nat} {n : Nat} {ks : List Nat} {os : List HO} (h : NwL H' J ρ n ks os) : ks.length = os.length := by
 induction h with
 | nil => rfl
 | cons _ _ _ _ _ ih => simp [ih]
theorem NwL.get {H' J : A2} {ρ : Nat → Nat} {n : Nat} {ks : List Nat} {os : List HO} (h : NwL H' J ρ n ks os) : ∀ (i k : Nat) (o' : HO), ks[i]? = some k → os[i]? = some o' → n ≤ k ∧ k < H'.next ∧ ∃ o, H'.obj k = some o ∧ RnO H' J ρ n o o' := by
 induction h with
 | nil => intro i k o' h1; simp at h1
 | cons lo lt h r _ ih =>
  intro i k o' h1 h2; cases i with
  | zero => simp at h1 h2; subst h1; subst h2; exact ⟨lo, lt, _, h, r⟩
  | succ i => exact ih i k o' (by simpa using h1) (by simpa using h2)
theorem HE {H0 H' : A2} (he : Ext H0 H') {ks : List Nat} {os : List HO} (h : NwL H' (newL H0 os) (DA H0.next ks) H0.next ks os) (nd : ks.Nodup) : IC H0 H' (newL H0 os) (DA H0.next ks) :=
  he.iW he.wf rfl rfl h.len (fun _ _ h => .inl h) (fun i o h => he.sub i o h) h.get nd
theorem KS {n : Nat} {l : List IV} (h : NBL n l) : NB n (.cp l) := .cp _ h
end Go.Idl
namespace Go.Idl
open Go Go.RowKit Go.Proofs Go.Shelf
variable {P : Program} {H : A2} {K : Aw → A2 → Prop}
def HF (vs : List (Nat × Array Value)) : Array Value × (Nat → IV) := ((vs.map fun _ => undef).toArray, fun i => match vs[i]? with | some p => .blk p.1 p.2 | none => .any)
theorem R.Xh {w : World} {g : Gs} {x : Value} {b : Nat} {xs : Array Value} (h : R w g x (.blk b xs)) : ∃ el f, w.heap[b]? = some (.cells xs el f) := by
 cases h with
 | blk _ _ el f _ _ h2 => exact ⟨el, f, h2⟩
theorem Fi {w : World} {g : Gs} (s : Sim w g H) {vs : List (Nat × Array Value)} (h : HF vs ∈ H.sn) {i b : Nat} {xs : Array Value} (hi : vs[i]? = some (b, xs)) : ∃ el f, w.heap[b]? = some (.cells xs el f) := by
 have hl : i < vs.length := (List.getElem?_eq_some_iff.1 hi).1; have h1 := s.snap _ h i (by simpa [HF] using hl); simp only [HF, hi] at h1; exact h1.Xh
theorem Q2 {w : World} {name : String} {b : Nat} {xs : Array Value} {el : TypeId} {f : Nat × Nat} (hg : P.globalNamed name = some b) (h : w.heap[b]? = some (.cells xs el f)) : w.var? P name = some xs := by
 unfold World.var?; rw [hg]; simp [h]
def VOK (P : Program) (H : A2) : Prop := ∃ (b1 b2 b3 b4 : Nat) (t2 t3 : TypeId) (p2 p3 : Value) (x4 : Array Value) (m4 : Int), P.globalNamed "internal/strconv.uint64pow10" = some b1 ∧ P.globalNamed "strconv.ErrSyntax" = some b2 ∧ P.globalNamed "strconv.ErrRange" = some b3 ∧ P.globalNamed "internal/bytealg.MaxLen" = some b4 ∧ x4[0]? = some (.int .i64 m4) ∧
  HF [(b1, (Lib.pow10Tab.map fun z => Value.int .u64 z).toArray), (b2, #[.iface t2 p2]), (b3, #[.iface t3 p3]), (b4, x4)] ∈ H.sn
theorem VOK.of {J : A2} (h : VOK P H) (e : J.sn = H.sn) : VOK P J := by
 obtain ⟨b1, b2, b3, b4, t2, t3, p2, p3, x4, m4, h1, h2, h3, h5, h6, h4⟩ := h; exact ⟨b1, b2, b3, b4, t2, t3, p2, p3, x4, m4, h1, h2, h3, h5, h6, by rw [e]; exact h4⟩
def D4 (s : List UInt8) : Int × Bool := match Lib.atoiAll s with | .ok v => (v, false) | .range => (Lib.atoiSat s, true) | _ => (0, true)
theorem OD {ρ : Go.Shelf.Ren} {f : FuncId} {te : TypeId} (Ly : LaysC.n172 P ρ) (hf : ρ.f 172 = f) (ht : ρ.t 168 = te) (hb : Bl P f = true) (hV : VOK P H) (s : List UInt8) (hs : s.length ≤ 281474976710656) (hK : K (.ret (.tu [.v (.int .i64 (D4 s).1), N2 te (D4 s).2])) H) : Ac P f [.v (str s)] H K := by
 refine ⟨hb, fun w g vs sm rl => ?_⟩; obtain ⟨x, rfl, hx⟩ := args1 rl; rw [hx.v_eq, ← hf]; obtain ⟨b1, b2, b3, b4, t2, t3, p2, p3, x4, m4, q1, q2, q3, q5, q6, q4⟩ := hV; obtain ⟨el2, fz2, hc2⟩ := Fi sm q4 (i := 1) rfl; obtain ⟨el3, fz3, hc3⟩ := Fi sm q4 (i := 2) rfl; have v2 := Q2 q2 hc2; have v3 := Q2 q3 hc3; have two : ∀ (n : Int) (y : Value) (b : Bool), R w g y (N2 te b) → ∀ (w' : World), Below w.heap.size w w' → R w' g (.tuple #[.int .i64 n, y]) (.tu [.v (.int .i64 n), N2 te b]) := fun n y b hy w' hB => by
  refine .tu _ _ rfl fun j x c h1 h2 => ?_
  match j, h1, h2 with
  | 0, h1, h2 => simp at h1 h2; subst h1; subst h2; exact .v _
  | 1, h1, h2 => simp at h1 h2; subst h1; subst h2; exact hy.mono (.B9 hB)
  | j + 2, h1, h2 => simp at h1
 cases h : Lib.atoiAll s with
 | ok v =>
  have e : D4 s = (v, false) := by simp only [D4, h]
  rw [e] at hK; refine (Any.strconv_Atoi_ok Ly ⟨s.toArray⟩ (by show s.toArray.size ≤ _; simp; omega) v (by simpa using h) w).mono ?_
  rintro e w' ⟨rfl, hw⟩
  have hB : Below w.heap.size w w' := by
   rcases hw with rfl | ⟨t, rfl⟩
   ·exact Below.refl _ _
   ·exact Lib.bytesWorld_below _ _ _
  exact ⟨_, g, H, .B9 hB, sm.B9 hB, .ret _ _ (two v .nilIface false (.v _) _ hB), hK⟩
 | range =>
  have e : D4 s = (Lib.atoiSat s, true) := by simp only [D4, h]
  rw [e] at hK; refine (Any.strconv_Atoi_range_var Ly ⟨s.toArray⟩ (by show s.toArray.size ≤ _; simpa using hs) (by simpa using h) t3 p3 w v3).mono ?_
  rintro e w' ⟨N, rfl, _, _, hB⟩
  rw [ht]; have e2 : (⟨s.toArray⟩ : ByteArray).data.toList = s := by simp
  rw [e2]; exact ⟨_, g, H, .B9 hB, sm.B9 hB, .ret _ _ (two _ _ true (.ifc _ _ _ (.any _)) _ hB), hK⟩
 | _ =>
  have e : D4 s = (0, true) := by simp only [D4, h]
  rw [e] at hK; refine (Any.strconv_Atoi_syntax_var Ly ⟨s.toArray⟩ (by show s.toArray.size ≤ _; simpa using hs) (by simpa using h) t2 p2 w v2).mono ?_
  rintro e w' ⟨N, rfl, _, _, hB⟩
  rw [ht]; exact ⟨_, g, H, .B9 hB, sm.B9 hB, .ret _ _ (two 0 _ true (.ifc _ _ _ (.any _)) _ hB), hK⟩
theorem Ur {w : World} {g : Gs} {vs : Array Value} {i j : IV} (rl : RL w g vs [i, j]) : ∃ x y, vs = #[x, y] ∧ R w g x i ∧ R w g y j := by
 obtain ⟨h1, h2⟩ := rl; have hs : vs.size = 2 := h1; refine ⟨vs[0], vs[1], ?_, h2 0 _ i (Array.getElem?_eq_getElem (by omega)) rfl, h2 1 _ j (Array.getElem?_eq_getElem (by omega)) rfl⟩; apply Array.ext
 ·simpa using hs
 ·intro q hq hq'; have : q = 0 ∨ q = 1 := by omega
  rcases this with rfl | rfl <;> rfl
theorem Q3 {ρ : Go.Shelf.Ren} {f : FuncId} (Ly : Lays.n145 P ρ) (hf : ρ.f 145 = f) (hg : P.globalNamed "internal/bytealg.MaxLen" = some (ρ.g 1)) (hb : Bl P f = true) (hV : VOK P H) (s t : List UInt8) (hs : s.length < 4294967281) (hK : K (.ret (.tu [.v (str (Lib.cut s t).1), .v (str (Lib.cut s t).2.1), .v (.bool (Lib.cut s t).2.2)])) H) : Ac P f [.v (str s), .v (str t)] H K := by
 refine ⟨hb, fun w g vs sm rl => ?_⟩; obtain ⟨x, y, rfl, hx, hy⟩ := Ur rl; rw [hx.v_eq, hy.v_eq, ← hf]; obtain ⟨b1, b2, b3, b4, t2, t3, p2, p3, x4, m4, q1, q2, q3, q5, q6, q4⟩ := hV; obtain ⟨el4, fz4, hc4⟩ := Fi sm q4 (i := 3) rfl; have e4 : b4 = ρ.g 1 := by rw [hg] at q5; exact (Option.some.inj q5).symm
 subst e4; have hm : w.cell? ⟨ρ.g 1, 0, none⟩ = some (.int .i64 m4) := by simp only [World.cell?, hc4]; exact q6
 refine (Any.strings_Cut Ly ⟨s.toArray⟩ ⟨t.toArray⟩ m4 w (by show s.toArray.size < _; simpa using hs) hm).mono ?_
 rintro e w' ⟨rfl, n, rfl⟩
 have hB : Below w.heap.size w (w.drewN n) := ⟨rfl, rfl, rfl, Nat.le_refl _, fun _ _ => rfl⟩; refine ⟨_, g, H, .B9 hB, sm.B9 hB, .ret _ _ (.tu _ _ rfl fun j x c h1 h2 => ?_), hK⟩
 match j, h1, h2 with
 | 0, h1, h2 => simp at h1 h2; subst h1; subst h2; exact .v _
 | 1, h1, h2 => simp at h1 h2; subst h1; subst h2; exact .v _
 | 2, h1, h2 => simp at h1 h2; subst h1; subst h2; exact .v _
 | j + 3, h1, h2 => simp at h1
end Go.Idl
namespace Go.Idl
open Go Go.RowKit Go.Proofs Go.Shelf
variable {P : Program} {H : A2} {K : Aw → A2 → Prop}
def TOK (P : Program) (H : A2) : Prop := ∃ (b1 i : Nat) (vs : List (Nat × Array Value)), P.globalNamed "internal/strconv.uint64pow10" = some b1 ∧ vs[i]? = some (b1, (Lib.pow10Tab.map fun z => Value.int .u64 z).toArray) ∧ HF vs ∈ H.sn
theorem TOK.of {J : A2} (h : TOK P H) (e : J.sn = H.sn) : TOK P J := by
 obtain ⟨b1, i, vs, h1, h2, h3⟩ := h; exact ⟨b1, i, vs, h1, h2, by rw [e]; exact h3⟩
theorem VOK.tok (h : VOK P H) : TOK P H := by
 obtain ⟨b1, b2, b3, b4, t2, t3, p2, p3, x4, m4, q1, q2, q3, q5, q6, q4⟩ := h; exact ⟨b1, 0, _, q1, rfl, q4⟩
theorem N8 {ρ : Go.Shelf.Ren} {f : FuncId} (Ly : LaysM.n171 P ρ) (hf : ρ.f 171 = f) (hb : Bl P f = true) (hV : TOK P H) (n : Int) (h0 : -9223372036854775808 ≤ n) (h1 : n ≤ 9223372036854775807) (hK : K (.ret (.v (str (Lib.itoa n)))) H) : Ac P f [.v (.int .i64 n)] H K := by
 refine ⟨hb, fun w g vs s rl => ?_⟩; obtain ⟨x, rfl, hx⟩ := args1 rl; rw [hx.v_eq, ← hf]; obtain ⟨b1, i, vs1, q1, q2, q4⟩ := hV; obtain ⟨el, fz, hc⟩ := Fi s q4 q2; refine (Any.strconv_Itoa Ly n h0 h1 w (Q2 q1 hc)).mono ?_
 rintro e w' ⟨rfl, k, os, rfl⟩
 have hB : Below w.heap.size w (Go.Sort.grow (w.drewN k) os) := by
  refine ⟨rfl, rfl, rfl, ?_, fun i hi => ?_⟩
  ·show w.heap.size ≤ (w.heap ++ os).size; simp
  ·show (w.heap ++ os)[i]? = w.heap[i]?; rw [Array.getElem?_append_left hi]
 exact ⟨_, g, H, .B9 hB, s.B9 hB, .ret _ _ (.v _), hK⟩
theorem OE (l : List UInt8) : (⟨l.toArray⟩ : ByteArray).data.toList = l := by simp
theorem OF {ρ : Go.Shelf.Ren} {f : FuncId} (Ly : Lays.n156 P ρ) (X : Builder.Extra P ρ) (hf : ρ.f 156 = f) (hb : Bl P f = true) (l : List (List UInt8)) (sep : List UInt8) (hl : l.length ≤ 1000000) (hlen : (Lib.join l sep).length ≤ 140737488355328)
    (hK : K (.ret (.v (str (Lib.join l sep)))) H) : Ac P f [.sl 1 (l.map fun x => [.v (str x)]), .v (str sep)] H K := by
 refine ⟨hb, fun w g vs s rl => ?_⟩; obtain ⟨x, y, rfl, hx, hy⟩ := Ur rl; rw [hy.v_eq, ← hf]; have fin : ∀ e w', e = .returned (.string ⟨(Lib.join l sep).toArray⟩) → Below w.heap.size w w' → ∃ ie g' H', AI w g w' g' ∧ Sim w' g' H' ∧ RE w' g' e ie ∧ K ie H' := by
  rintro e w' rfl hB
  exact ⟨_, g, H, .B9 hB, s.B9 hB, .ret _ _ (.v _), hK⟩
 generalize hes : (l.map fun x => ([.v (str x)] : List IV)) = es at hx; cases hx with
 | sl0 a cap sz =>
  have e : l = [] := by simpa using hes
  subst e; refine (Any.strings_Join_none Ly X a cap ⟨sep.toArray⟩ w).mono ?_
  rintro e w' ⟨rfl, rfl⟩
  exact fin _ _ rfl (Below.refl _ _)
 | sl b off cap sz es cv hb hlt hln hcap hsz hc ho hr =>
  subst hes; have hxs : (l.map fun x => (⟨x.toArray⟩ : ByteArray)).length = (l.map fun x => ([.v (str x)] : List IV)).length := by simp
  have hmap : (l.map fun x => (⟨x.toArray⟩ : ByteArray)).map (·.data.toList) = l := by
   rw [List.map_map]; have : ((fun x : ByteArray => x.data.toList) ∘ fun x : List UInt8 => (⟨x.toArray⟩ : ByteArray)) = id := by funext x; simp
   rw [this, List.map_id]
  have c := Any.strings_Join Ly X b off cap (l.map fun x => (⟨x.toArray⟩ : ByteArray)) ⟨sep.toArray⟩ w (fun j x hj => ?_) hlt (by simpa using (by omega : l.length ≤ 140737488355328)) (by rw [hxs]; exact hcap) (by rw [hmap, OE]; exact hlen)
  ·rw [hmap, OE, hxs] at c; refine c.mono ?_
   rintro e w' ⟨rfl, hB⟩
   exact fin _ _ rfl hB
  ·rw [List.getElem?_map, Option.map_eq_some_iff] at hj; obtain ⟨z, hz, rfl⟩ := hj; have hi : (l.map fun x => ([.v (str x)] : List IV))[j]? = some [.v (str z)] := by rw [List.getElem?_map, hz]; rfl
   have h1 := hc j _ 0 _ hi rfl; have h2 := (hr j _ 0 _ hi rfl).v_eq; rw [h2] at h1; simpa using h1
end Go.Idl
namespace Go.Idl
open Go Go.Proofs.Tryz Go.RowKit Go.Proofs Go.Shelf
variable {H : A2} {K : Aw → A2 → Prop}
abbrev Str := List UInt8
def DB (c : List (List Str)) : Prop := c.length = 8 ∧ ∀ l, l ∈ c → l.length ≤ 1000000 ∧ ∀ s, s ∈ l → s.length ≤ 1000000
instance (c : List (List Str)) : Decidable (DB c) := inferInstanceAs (Decidable (_ ∧ _))
def OG (c : List (List Str)) : Prop := c.length = 8 ∧ ∀ l, l ∈ c → l.length ≤ 1000 ∧ ∀ s, s ∈ l → s.length ≤ 100000
instance (c : List (List Str)) : Decidable (OG c) := inferInstanceAs (Decidable (_ ∧ _))
noncomputable def F56 (c : List (List Str)) : Option Int := gd (DB c) (some (if AH c = true then 0 else 2))
theorem IJ (c : List (List Str)) {r : Int} (h : F56 c = some r) (hK : K (.ret (.v (.int .i64 r))) H) : Ac prog 56 [cS c] H K := by
 obtain ⟨h0, h⟩ := Af.1 h; cases h; exact R5 c h0.1 h0.2 hK
noncomputable def F58 (c : List (List Str)) : Option (List (List Str)) := gd (DB c) (some c)
theorem Q4 (c : List (List Str)) {r : List (List Str)} (h : F58 c = some r) (hK : K (.ret (cS r)) H) : Ac prog 58 [cS c] H K := by
 obtain ⟨h0, h⟩ := Af.1 h; cases h; exact ZX c h0.1 (fun s hs => (h0.2 s hs).1) hK
noncomputable def F48 (a b : List (List Str)) : Option Bool := gd (a.length = 8 ∧ b.length = 8) (some (decide (a = b)))
theorem Us (a b : List (List Str)) {r : Bool} (h : F48 a b = some r) (hK : K (.ret (.v (.bool r))) H) : Ac prog 48 [cS a, cS b] H K := by
 obtain ⟨h0, h⟩ := Af.1 h; cases h; exact an a b h0.1 h0.2 hK
noncomputable def F95 (n : Int) : Option Str := gd (-9223372036854775808 ≤ n ∧ n ≤ 9223372036854775807) (some (Lib.itoa n))
theorem Ut (n : Int) (hV : TOK prog H) {r : Str} (h : F95 n = some r) (hK : K (.ret (.v (str r))) H) : Ac prog 95 [.v (.int .i64 n)] H K := by
 obtain ⟨⟨h0, h1⟩, h⟩ := Af.1 h; cases h; exact N8 Go.Proofs.Tryz.U7 rfl (by kernel_rfl) hV n h0 h1 hK
theorem Mc (n : Nat) : Lib.itoa (n : Int) = Lib.decDigits n := by
 unfold Lib.itoa; rw [if_neg (by omega)]; simp
noncomputable def F61 (c : List (List Str)) : Option (Str × Int) := gd (OG c) (some (if AH c = true then BO c else [], if AH c = true then 0 else 2))
theorem N9 (c : List (List Str)) (hV : TOK prog H) {r : Str × Int} (h : F61 c = some r) (hK : K (.ret (.tu [.v (str r.1), .v (.int .i64 r.2)])) H) : Ac prog 61 [cS c] H K := by
 obtain ⟨h0, h⟩ := Af.1 h; cases h; exact X6 c h0.1 h0.2 (fun n hn J K hs hK => Ut n (hV.of hs) (A9 (by omega)) (by rw [Mc]; exact hK)) hK
theorem OH : Builder.Extra prog Jr where
  sizeBuilder := by kernel_rfl
  liesBuilder := by kernel_rfl
  t5 := underlying5
  a5 := isAgg5
  z5 := sizeOf5
  v5 := zeroValue5
  infoByte := by kernel_rfl
  cellsByte := by kernel_rfl
  sizeByte := by kernel_rfl
  neB5 := by decide
noncomputable def F62 (l : List Str) (sep : Str) : Option Str := gd ((l.length : Int) ≤ 1000000 ∧ ((Lib.join l sep).length : Int) ≤ 140737488355328) (some (Lib.join l sep))
theorem Uu (l : List Str) (sep : Str) {r : Str} (h : F62 l sep = some r) (hK : K (.ret (.v (str r))) H) : Ac prog 62 [.sl 1 (l.map fun x => [.v (str x)]), .v (str sep)] H K := by
 obtain ⟨h0, h⟩ := Af.1 h; cases h; exact OF Go.Proofs.Tryz.Xa OH rfl (by kernel_rfl) l sep (by omega) (by omega) hK
section
variable {α : Type} {F : α → IV}
theorem SB (m : List (Str × α)) (k : Nat) (ok : H.obj k = some (.map (mE F m))) (hK : K (.ret (.fn (.func 75) [] [.p H.next 0])) (H.new (.cells [.mp k]))) : Ac prog 44 [.mp k] H K := by
 refine AP (N := 4) func44 (by kernel_rfl) rfl (by kernel_rfl) (by kernel_rfl) fun hw hbd hnb => ?_; have hx : AO (.mp k) = some [.mp k] := rfl; simp (maxSteps := 1000000) (disch := omega) [go_sem, hx]; refine D3 ?_; exact hK
theorem OI : Ma prog 74 75 9 := by
 intro Bm b nn D0 w hBm hcell hown hmax hbytes; refine (callsIn_wide (n := 5)).1 ?_; have hs : AnyZ.SortsIn prog Go.Proofs.Tryz.Hy Fence.wide 4 :=
  ⟨fun blk off cap ss W hH hblk hsz => callsIn_wide.2 (AnyM.slices_Sort_string Go.Proofs.Tryz.R4 blk off cap ss W hH hblk hsz),
   fun p cap W => callsIn_wide.2 (AnyM.slices_Sort_string_none Go.Proofs.Tryz.R4 p cap W)⟩
 have hseq : SeqGives Fence.wide 2 prog 75 #[.pointer (some ⟨Bm, 0, none⟩)] encStr (fun ss => ss.Perm (strKeys D0)) (Maps.size D0) w :=
  AnyZ.keys_gives (ρ := Go.Proofs.Tryz.KG) Go.Proofs.Tryz.ZY Fence.wide _ trivial rfl (by omega) Bm b nn D0 _ hBm hcell hown
 have cS := AnyZ.sorted_in Go.Proofs.Tryz.U8 Fence.wide 5 trivial trivial trivial trivial rfl (by omega) hs (enters_of Go.Proofs.Tryz.func117 (by kernel_rfl) rfl) 75 #[.pointer (some ⟨Bm, 0, none⟩)] trivial (enters_of Go.Proofs.Tryz.func75 (by kernel_rfl) rfl) _ _ hmax hbytes _ hseq; exact cS
noncomputable def F43 (m : List (Str × α)) : Option (List Str) := gd (m.length ≤ 1000000 ∧ ∀ p, p ∈ m → p.1.length ≤ 1000000) (some (Df (m.map (·.1))))
theorem aF (m : List (Str × α)) (kb k : Nat) (okb : H.obj kb = some (.cells [.mp k])) (ok : H.obj k = some (.map (mE F m))) {r : List Str} (h : F43 m = some r) (hK : K (.ret (.sl 1 (r.map fun x => [.v (str x)]))) H) : Ac prog 43 [.fn (.func 75) [] [.p kb 0]] H K := by
 obtain ⟨⟨hm, hl⟩, h⟩ := Af.1 h; cases h; refine AP (N := 5) func43 (by kernel_rfl) rfl (by kernel_rfl) (by kernel_rfl) fun hw hbd hnb => ?_; simp (maxSteps := 1000000) (disch := omega) [go_sem]; refine HC (kt := 9) underlying9 (by kernel_rfl) OI m kb k okb ok hm hl fun r J he ho => ?_; simp (maxSteps := 1000000) (disch := omega) [go_sem]; have hn : NB H.next (.sl 1 ((Df (m.map (·.1))).map fun x => [.v (str x)])) := .sl _ _ fun e h c hc => by
  simp at h; obtain ⟨a, _, rfl⟩ := h; simp at hc; subst hc; exact .v _
 rcases ho with ⟨e, rfl⟩ | ⟨e, k', h1, rfl, h3⟩
 ·rw [e] at hK; exact BA (J := H) he.Cy (.wk _ _ (.nil 1) (.sl _ _ (by simp))) hK
 ·have hl' : (Df (m.map (·.1))).length ≤ 1000000 := by rw [N0, List.length_map]; exact hm
  exact BA (J := H) he.Cy (iN (hw _ h1) h3 (List.take_of_length_le (Nat.le_refl _)) (Nat.le_refl _) hl') hK
end
structure S89 where
  fType : Str
  Aa : Str
deriving DecidableEq
noncomputable def F78 (l : List S89) : Option (List S89) := gd (l.length ≤ 1000000) (some l)
theorem aG (l : List S89) {r : List S89} (h : F78 l = some r) (hK : K (.ret (.sl 2 (r.map fun x => [.v (str x.fType), .v (str x.Aa)]))) H) : Ac prog 78 [.sl 2 (l.map fun x => [.v (str x.fType), .v (str x.Aa)])] H K := by
 obtain ⟨hl, h⟩ := Af.1 h; cases h; refine AP (N := 8) func78 (by kernel_rfl) rfl (by kernel_rfl) (by kernel_rfl) fun hw hbd hnb => ?_; have hnl := hnb (.sl 2 (l.map fun x => [.v (str x.fType), .v (str x.Aa)])) (by simp); simp (maxSteps := 1000000) (disch := omega) [go_sem]; refine Jm rfl (by kernel_rfl) underlying29 (by simp [go_sem]; exact ⟨rfl, rfl⟩) rfl (.inl rfl) fun b hb => ?_; simp (maxSteps := 1000000) (disch := omega) [go_sem]; refine BM ?_ ?_ <;> intro hc <;> (try simp at hc)
 ·simp (maxSteps := 1000000) (disch := omega) [go_sem]; have e : l = [] := by simpa using hb hc
  subst e; exact BA (J := H) (Ext.refl hw).Cy (.wk _ _ (.nil 2) hnl) hK
 ·simp (maxSteps := 1000000) (disch := omega) [go_sem]; refine E7 (sz := 2) (rs := []) rfl (by simp [bsI, underlying29, ZV, JL, Value.cells, Value.oneCell', rep, E5]) ?_; simp (maxSteps := 1000000) (disch := omega) [go_sem]; exact BA (J := H) ((Ext.refl hw).new _ |>.set (Nat.le_refl _) _).Cy (.row (hw _ (Nat.le_refl _)) (by simp [go_sem]) (by simp) hnl) hK
end Go.Idl
namespace Go.Idl
open Go Go.Proofs.Tryz Go.RowKit Go.Proofs
variable {H : A2} {K : Aw → A2 → Prop}
def C8 (b : UInt8) : UInt8 := if 65 ≤ b ∧ b ≤ 90 then b + 32 else b
def F81 (s : Str) : Option Str := gd ((s.length : Int) ≤ 1000000) (some (s.map C8))
theorem HG (b : UInt8) : (65 ≤ (b.toNat : Int) ∧ (b.toNat : Int) ≤ 90 → ((C8 b).toNat : Int) = (b.toNat : Int) + 97 - 65) ∧ (¬ (65 ≤ (b.toNat : Int) ∧ (b.toNat : Int) ≤ 90) → C8 b = b) := by
 constructor
 ·rintro ⟨h1, h2⟩
  have h3 : 65 ≤ b ∧ b ≤ 90 := ⟨by rw [UInt8.le_iff_toNat_le]; show 65 ≤ b.toNat; omega, by rw [UInt8.le_iff_toNat_le]; show b.toNat ≤ 90; omega⟩; have h4 : (C8 b).toNat = b.toNat + 32 := by
   simp only [C8, h3, and_self, if_true]; have : (b + 32).toNat = (b.toNat + 32) % 256 := by simp [UInt8.toNat_add]
   rw [this]; omega
  omega
 ·intro h; unfold C8; rw [if_neg]
  rintro ⟨h1, h2⟩
  rw [UInt8.le_iff_toNat_le] at h1 h2; have h1 : 65 ≤ b.toNat := h1; have h2 : b.toNat ≤ 90 := h2; exact h ⟨by omega, by omega⟩
def Dt (s : Str) (i : Nat) : List IV := (((s.take i).map C8) ++ s.drop i).map fun x => .v (.int .u8 x.toNat)
theorem Md (s : Str) (i : Nat) : (Dt s i).length = s.length := by simp [Dt]; omega
theorem Me (s : Str) (i : Nat) (h : i < s.length) : (Dt s i)[i]? = some (.v (.int .u8 s[i].toNat)) := by
 have hl : ((s.take i).map C8).length = i := by simp; omega
 unfold Dt; rw [List.getElem?_map, List.getElem?_append_right (by omega), hl, Nat.sub_self, List.getElem?_drop]; simp [h]
theorem Mf (s : Str) (i : Nat) (h : i < s.length) : (Dt s i).set i (.v (.int .u8 (C8 s[i]).toNat)) = Dt s (i + 1) := by
 have hl : ((s.take i).map C8).length = i := by simp; omega
 unfold Dt; rw [List.take_succ_eq_append_getElem h, List.drop_eq_getElem_cons h]; simp only [List.map_append, List.map_cons, List.map_nil]; rw [List.set_append_right _ _ (by simp; omega)]; simp [List.length_take, Nat.min_eq_left (Nat.le_of_lt h)]
theorem KT (s : Str) (i : Nat) (h : i < s.length) (e : C8 s[i] = s[i]) : Dt s i = Dt s (i + 1) := by
 rw [← Mf s i h, e]; apply List.ext_getElem?; intro j; by_cases hj : i = j
 ·subst hj; rw [Me s i h, List.getElem?_set_self (by rw [Md]; exact h)]
 ·rw [List.getElem?_set_ne hj]
set_option pp.deepTerms false in
set_option maxRecDepth 8000 in
theorem Uv (s : Str) {r : Str} (h : F81 s = some r) (hK : K (.ret (.v (str r))) H) : Ac prog 81 [.v (str s)] H K := by
 obtain ⟨hs, h⟩ := Af.1 h; cases h; refine AP (N := 30) func81 (by kernel_rfl) rfl (by kernel_rfl) (by kernel_rfl) fun hw hbd hnb => ?_; simp (maxSteps := 1000000) (disch := omega) [go_sem]; refine KR s rfl (by kernel_rfl) underlying9 underlying131 underlying5 (by simp [go_sem]) ?_; simp (maxSteps := 1000000) (disch := omega) [go_sem]; refine Bk (fun tm' H' => ∃ i : Nat, tm' 3 = .bs H.next 0 s.length ∧ tm' 8 = .bs H.next 0 s.length ∧ tm' 9 = .v (.int .i64 s.length) ∧ tm' 10 = .v (.int .i64 i) ∧ i ≤ s.length ∧ H'.obj H.next = some (.cells (Dt s i)) ∧ Ext H H' ∧ H.next < H'.next) (fun tm' _ => s.length - (intOf (tm' 10)).toNat) (.same ?_) ?_
 ·exact ⟨0, by simp [go_sem], by simp [go_sem], by simp [go_sem], by simp [go_sem], by omega, by simp [go_sem, Dt], (Ext.refl hw).new _, by simp [go_sem]⟩
 rintro I' μ' hI hμ tm' H' ⟨i, h3, h8, h9, h10, hi, ho, he, hn⟩
 refine AF _ (by kernel_rfl) _ _ _ ?_; simp (maxSteps := 1000000) (disch := omega) [go_sem, h3, h8, h9, h10]; refine BM ?_ ?_ <;> intro hc <;> (try simp at hc)
 ·have hl := Md s i; have hg := Me s i hc; have hg' : (Dt s i).getD i .any = .v (.int .u8 s[i].toNat) := by rw [List.getD_eq_getElem?_getD, hg]; rfl
  simp (maxSteps := 1000000) (disch := omega) [go_sem, h3, h8, h9, h10, ho, hl]; have e1 : (Dt s i)[i]'(by rw [hl]; exact hc) = .v (.int .u8 s[i].toNat) := by
   rw [List.getElem?_eq_getElem (by rw [hl]; exact hc)] at hg; simpa using hg
  simp (maxSteps := 1000000) (disch := omega) [go_sem, h3, h8, h9, h10, ho, hl, e1]
  (first | refine Et ?_ ?_ | refine FM ?_ ?_) <;> intro g1 <;> (try simp at g1)
  ·simp (maxSteps := 1000000) (disch := omega) [go_sem, h3, h8, h9, h10, ho, hl, e1]; refine BM ?_ ?_ <;> intro g2 <;> (try simp at g2)
   ·simp (maxSteps := 1000000) (disch := omega) [go_sem, h3, h8, h9, h10, ho, hl, e1]; have hlb := (HG s[i]).1 ⟨g1, g2⟩; refine .of hI hμ ⟨i + 1, by simp [go_sem, h3], by simp [go_sem, h8], by simp [go_sem, h9], by simp [go_sem], by omega, ?_, he.set (Nat.le_refl _) _, hn⟩ (by simp [go_sem, h10]; omega); rw [← Mf s i hc, hlb]; rw [List.set_eq_take_append_cons_drop, if_pos (by rw [hl]; exact hc)]; simp [go_sem]
   ·simp (maxSteps := 1000000) (disch := omega) [go_sem, h3, h8, h9, h10, ho, hl, e1]; have hlb := (HG s[i]).2 (fun q => by omega); exact .of hI hμ ⟨i + 1, by simp [go_sem, h3], by simp [go_sem, h8], by simp [go_sem, h9], by simp [go_sem], by omega, by rw [← KT s i hc hlb]; exact ho, he, hn⟩ (by simp [go_sem, h10]; omega)
  ·simp (maxSteps := 1000000) (disch := omega) [go_sem, h3, h8, h9, h10, ho, hl, e1]; have hlb := (HG s[i]).2 (fun q => by omega); exact .of hI hμ ⟨i + 1, by simp [go_sem, h3], by simp [go_sem, h8], by simp [go_sem, h9], by simp [go_sem], by omega, by rw [← KT s i hc hlb]; exact ho, he, hn⟩ (by simp [go_sem, h10]; omega)
 ·simp (maxSteps := 1000000) (disch := omega) [go_sem, h3, h8, h9, h10]; have e : i = s.length := by omega
  subst e; have hL : Dt s s.length = (s.map C8).map fun x => IV.v (.int .u8 x.toNat) := by simp [Dt]
  rw [hL] at ho; refine AD.gh (Gh.Xe (d := 28) (k := H.next) (n := s.length) ho (by simp [go_sem]) (by simp) (by simp only [Cm]; omega)) true (Es (by kernel_rfl) ?_); generalize s.map C8 = q at hK ⊢; simp (maxSteps := 1000000) (disch := omega) [go_sem]; refine AN (he.del (Nat.le_refl _)) (.v _) ?_; simp only [Function.comp_def, Option.getD_some, Int.toNat_natCast, UInt8.ofNat_toNat, List.map_id']; exact hK
end Go.Idl
namespace Go.Idl
open Go Go.RowKit
section
variable {α β : Type} {f : α → β} {x : List α} {y : List β} {n : Nat}
@[go_sem] theorem Na (h : x.length = n) : List.take n (x.map f) = x.map f := List.take_of_length_le (by rw [List.length_map]; omega)
@[go_sem] theorem Xi (h : x.length = n) : List.take n (x.map f ++ y) = x.map f := by
 rw [List.take_append_of_le_length (by rw [List.length_map]; omega), Na h]
@[go_sem] theorem Xj (h : x.length = n) : List.drop n (x.map f ++ y) = y := by
 rw [List.drop_append_of_le_length (by rw [List.length_map]; omega), List.drop_of_length_le (by rw [List.length_map]; omega), List.nil_append]
@[go_sem] theorem Xk (h : x.length = n) : List.drop n (x.map f) = [] := List.drop_of_length_le (by rw [List.length_map]; omega)
end
theorem Wk.tuL {l m : List IV} (h : WkL l m) : Wk (.tu l) (.tu m) := fun w g x hx => by
  cases hx with
  | tu xs is hs hr =>
    refine .tu xs m (by rw [h.len]; exact hs) fun j x c h1 h2 => ?_
    have hlt : j < l.length := by rw [← h.len]; exact (List.getElem?_eq_some_iff.1 h2).1
    exact h.get j _ c (List.getElem?_eq_getElem hlt) h2 w g x (hr j x _ h1 (List.getElem?_eq_getElem hlt))
@[go_sem] theorem iX {P : Program} {t : TypeId} {u : Option TypeDesc} {cs : List Value} : zvA P t (some (.agg ⟨cs⟩)) u = if (cs.all (·.oneCell')) = true then some (.ag (zvc cs (FL P 9 t))) else none := rfl
@[go_sem] theorem iY {α : Type} {o : Option α} [Decidable (o = none)] : decide (o = none) = o.isNone := by cases o <;> simp
section
variable {P : Program} {α : Type} {f : α → List IV} {o : Option α} {t : TypeId}
@[go_sem high] theorem Wu : Iq P .eql t (AT f o) (.v (.pointer none)) = (match P.underlying t with | some (.pointer _) => some (True, .v (.bool o.isNone)) | _ => none) := by
 cases o <;> simp only [Sz, Sy, Iq, RX, Option.isSome_none, Option.isSome_some, Option.isNone_none, Option.isNone_some] <;> cases P.underlying t with
 | none => rfl
 | some d => cases d <;> rfl
end
end Go.Idl
namespace Go.Idl
open Go Go.RowKit
variable {P : Program} {N : Nat} {tm : Tm} {H : A2}
theorem AW.to {w : World} {g : Gs} {J : A2} (hs : ∀ k q, J.sh k = some q → g.sh k = some q) {rr : Option Nat} {B : Nat} : ∀ {ds : List Deferred}, AW rr B w g ds → AW rr B w (g.to J) ds
  | [], h => h
  | d :: ds, ⟨⟨r, h1, h2, h3, h4, h5, h6⟩, h⟩ => ⟨⟨r, h1, h2, h3, h4, fun e => h5 (Jh hs e), h6⟩, h.to hs⟩
theorem Xl {c : Code} {Q : Exit → Tm → A2 → Prop} (h : IWp P N c (fun e tm' H' => ∃ tm'' J, BI H H' J ∧ (∀ i, Fz H' J (tm' i) (tm'' i)) ∧ Q e tm'' J) tm H) : IWp P N c Q tm H := by
 refine ⟨fun rr B D w g a s r hN hB hm => wpIn_mono (h.run rr B D w g a s r hN hB hm) ?_⟩
 rintro e a' w' ⟨tm', g', H', m', s', r', hN', ⟨ms, k1, k2⟩, hne, tm'', J, hE, hf, hq⟩
 obtain ⟨sJ, mJ⟩ := hE.sim s m' s'; exact ⟨tm'', _, J, mJ, sJ, fun i hi => (hf i).sound s' hE.sub (r' i hi), hN', ⟨ms, k1, k2.to (hE.sub.sh s')⟩, hne, hq⟩
@[simp, go_sem] theorem ny {α : Type} {j : IntKind} {f : α → IV} : mI j f [] = [] := rfl
attribute [simp] ZS
@[go_sem ↓] theorem iZ {l : List UInt8} : List.map (fun e => UInt8.ofNat ((Ip e).getD 0).toNat) (List.map (fun x => [IV.v (.int .u8 x.toNat)]) l) = l := by
 rw [List.map_map]; have : ((fun e => UInt8.ofNat ((Ip e).getD 0).toNat) ∘ fun (x : UInt8) => [IV.v (.int .u8 x.toNat)]) = id := by
  funext x; simp [Ip]
 rw [this, List.map_id]
section
variable {α : Type} {a b c d e f g : α} {l : List α} {i : Nat}
@[go_sem] theorem nA : (a :: b :: l)[2 + i]? = l[i]? := by rw [Nat.add_comm]; rfl
end
@[go_sem] theorem Xm {α β : Type} {f : α → β} {x : List α} {y : List β} {n : Nat} (h : x.length = n) : (x.map f ++ y)[n]? = y[0]? := by
 rw [List.getElem?_append_right (by rw [List.length_map]; omega), List.length_map, h, Nat.sub_self]
@[go_sem] theorem YN {α β : Type} {f : α → β} {x : List α} {y : List β} {n : Nat} (h : x.length < n) : (x.map f ++ y).take n = x.map f ++ y.take (n - x.length) := by
 rw [List.take_append, List.length_map, List.take_of_length_le (by rw [List.length_map]; omega)]
section
variable {a s o : Nat}
@[go_sem] theorem Xn (h : o < s) : (a * s + o) / s = a := by
 rw [Nat.mul_comm, Nat.mul_add_div (by omega), Nat.div_eq_of_lt h, Nat.add_zero]
@[go_sem] theorem Xo (h : o < s) : (a * s + o) % s = o := by
 rw [Nat.mul_comm, Nat.mul_add_mod, Nat.mod_eq_of_lt h]
variable {α : Type} {f : α → List IV} {l : List α} {d x : α} {i : Nat} {vc : List IV}
theorem SC {es : List (List IV)} {off : Nat} (h1 : off / s = i) (h2 : off % s = o) : Cs s es vc off = es.set i (CH (es.getD i []) vc o) := by unfold Cs; rw [h1, h2]
theorem OJ (hi : i < l.length) (hx : CH (f (l.getD i d)) vc o = f x) : (l.map f).set i (CH ((l.map f).getD i []) vc o) = (l.set i x).map f := by
 have e : (l.map f).getD i [] = f (l.getD i d) := by simp [List.getD_eq_getElem?_getD, hi]
 rw [e, hx, List.map_set]
theorem KU (hi : i < l.length) (hx : CH (f (l.getD i d)) vc o = f x) (ho : o < s) : Cs s (l.map f) vc (i * s + o) = (l.set i x).map f := by
 rw [SC (Xn ho) (Xo ho), OJ hi hx]
theorem Js (hi : i < l.length) (hx : CH (f (l.getD i d)) vc 0 = f x) (ho : 0 < s) : Cs s (l.map f) vc (i * s) = (l.set i x).map f := KU (o := 0) hi hx ho
end
end Go.Idl
namespace Go.Idl
open Go Go.RowKit
variable {P : Program} {N : Nat} {ops : Array Oper} {Q : Exit → Tm → A2 → Prop} {tm : Tm} {H : A2}
def vcT (P : Program) (ops : Array Oper) (Q : Exit → Tm → A2 → Prop) (Pu : List Nat) (E : C4 → Tm → A2 → Prop) : List Nat → C4 → Tm → A2 → Prop
  | [], S, tm, H => E S tm H
  | i :: L, S, tm, H =>
    match ops[i]? with
    | none => False
    | some o => vcG ops o tm (Kt P (vcT P ops Q Pu E L) Q i o S H (inP Pu i)) (LV (vcT P ops Q Pu E L) o S H)
def nB (Q : Exit → Tm → A2 → Prop) (_ : C4) (tm : Tm) (H : A2) : Prop := Q .normal tm H
@[go_sem] theorem lT {Pu : List Nat} {E : C4 → Tm → A2 → Prop} {S : C4} : vcT P ops Q Pu E [] S tm H = E S tm H := rfl
@[go_sem] theorem i_ {S : C4} : nB Q S tm H = Q .normal tm H := rfl
theorem Gh.j0 {kb : Nat} {cs cs' : List IV} (hb : H.obj kb = some (.cells cs)) (h : WkL cs cs') : Gh tm H tm (H.set kb (.cells cs')) := fun w g s => by
  refine ⟨g, .refl w g, s.MV (o := .cells cs) hb rfl ?_, fun a r i hi => r i hi⟩
  intro _
  obtain ⟨b, xs, el, f, h1, h2, h3, hc⟩ := s.obj kb _ hb
  refine ⟨b, xs, el, f, h1, h2, h3, by rw [h.len]; exact hc.1, fun j c hj => ?_⟩
  have hlt : j < cs.length := by rw [← h.len]; exact (List.getElem?_eq_some_iff.1 hj).1
  obtain ⟨x, q1, q2, q3⟩ := hc.2 j _ (List.getElem?_eq_getElem hlt)
  exact ⟨x, q1, q2, h.get j _ c (List.getElem?_eq_getElem hlt) hj w g x q3⟩
theorem Au {H0 H1 H : A2} (h1 : Ext H0 H1)
    (he : Ext H0 H1 → Ext H0 H := by intro he1; repeat (first | exact he1 | refine Ext.skip ?_ | refine Ext.new ?_ _ | refine Ext.set ?_ (by first | omega | (simp [go_sem]; done) | (simp [go_sem]; omega)) _ | refine Ext.del ?_ (by first | omega | (simp [go_sem]; done) | (simp [go_sem]; omega)) | refine Ext.iP ?_ (by simp [go_sem]) _)) : Ext H0 H := he h1
theorem nbA {k : Nat} {x : IV}
    (h : NB k x := by repeat (first | refine N6 fun _ => ?_ | refine KS ?_ | exact .v _ | exact NBL.nil | refine NBL.cons ?_ ?_ | refine KP fun _ => ?_ | refine KQ ?_ | refine Ff ?_ | refine NBL.app ?_ ?_ | refine NBL.map fun _ => ?_ | exact N3 | exact P_ (by omega) | exact Ui (by omega))) : NB k x := h
theorem Bp {k : Nat} {x : List IV}
    (h : NBL k x := by repeat (first | refine N6 fun _ => ?_ | refine KS ?_ | exact .v _ | exact NBL.nil | refine NBL.cons ?_ ?_ | refine KP fun _ => ?_ | refine KQ ?_ | refine Ff ?_ | refine NBL.app ?_ ?_ | refine NBL.map fun _ => ?_ | exact N3 | exact P_ (by omega) | exact Ui (by omega))) : NBL k x := h
theorem C5 {k : Nat} {x : HO}
    (h : NBo k x := by repeat (first | refine N6 fun _ => ?_ | refine KS ?_ | exact .v _ | exact NBL.nil | refine NBL.cons ?_ ?_ | refine KP fun _ => ?_ | refine KQ ?_ | refine Ff ?_ | refine NBL.app ?_ ?_ | refine NBL.map fun _ => ?_ | exact N3 | refine aD ?_ | refine X8 fun _ => ?_ | refine X9 fun _ => ?_ | exact P_ (by omega) | exact Ui (by omega))) : NBo k x := h
end Go.Idl
namespace Go.Idl
open Go
theorem nd {A B : Prop} (a : A) (b : B) : A ∧ B := ⟨a, b⟩
theorem sG {P Q : Prop} (q : Q) (e : Q → P := by intro q; simp -implicitDefEqProofs (disch := omega) [go_sem]; exact q) : P := e q
theorem sF {F P Q : Prop} (f : F) (q : Q) (e : F → Q → P := by intro f q; simp -implicitDefEqProofs (disch := omega) [go_sem, f]; exact q) : P := e f q
theorem eA {P : Prop} (e : P := by first | (simp -implicitDefEqProofs (disch := omega) [go_sem]; done) | (simp -implicitDefEqProofs (disch := omega) [go_sem] <;> omega)) : P := e
theorem eF {F P : Prop} (f : F) (e : F → P := by intro f; first | (simp -implicitDefEqProofs (disch := omega) [go_sem, f]; done) | (simp -implicitDefEqProofs (disch := omega) [go_sem, f] <;> omega)) : P := e f
theorem v0 {P Q : Prop} (q : Q) (e : Q → P := by intro q; refine vcK ?_; exact q) : P := e q
theorem vO {P Q : Prop} (q : Q) (e : Q → P := by intro q; refine vcK ?_; simp -implicitDefEqProofs only [go_sem]; exact q) : P := e q
theorem vG {P Q : Prop} (q : Q) (e : Q → P := by intro q; refine vcK ?_; simp -implicitDefEqProofs (disch := omega) [go_sem]; exact q) : P := e q
theorem vF {F P Q : Prop} (f : F) (q : Q) (e : F → Q → P := by intro f q; refine vcK ?_; simp -implicitDefEqProofs (disch := omega) [go_sem, f]; exact q) : P := e f q
theorem w0 {P Q : Prop} (q : Q) (e : Q → P := by intro q; refine A3 fun cb hc => ?_; refine vcK ?_; subst hc; exact q) : P := e q
theorem wO {P Q : Prop} (q : Q) (e : Q → P := by intro q; refine A3 fun cb hc => ?_; refine vcK ?_; simp -implicitDefEqProofs only [go_sem]; subst hc; exact q) : P := e q
theorem wG {P Q : Prop} (q : Q) (e : Q → P := by intro q; refine A3 fun cb hc => ?_; refine vcK ?_; simp -implicitDefEqProofs (disch := omega) [go_sem]; subst hc; exact q) : P := e q
theorem wF {F P Q : Prop} (f : F) (q : Q) (e : F → Q → P := by intro f q; refine A3 fun cb hc => ?_; refine vcK ?_; simp -implicitDefEqProofs (disch := omega) [go_sem, f]; subst hc; exact q) : P := e f q
theorem gS {α : Type} {p p' : Prop} [Decidable p] {x : Option α} {r : α} (h : gd p x = some r) (e : p → p' := by intro q; simp (disch := omega) at q; exact q) : p' ∧ x = some r := (Af.1 h).imp_left e
theorem sm {P : Prop} (e : P := by refine .same ?_; and_intros <;> first | with_reducible rfl | with_reducible assumption | (simp -implicitDefEqProofs (disch := omega) [go_sem] <;> omega)) : P := e
theorem smF {F P : Prop} (f : F) (e : F → P := by intro f; refine .same ?_; and_intros <;> first | with_reducible rfl | with_reducible assumption | (simp -implicitDefEqProofs (disch := omega) [go_sem, f] <;> omega)) : P := e f
theorem Av {H0 H1 H : A2} {K : Aw → A2 → Prop} {r r' : IV} (he0 : Ext H0 H1) (h : K (.ret r) H0) (he : Ext H0 H1 → Ext H0 H := by intro h; exact Au h) (e : r' = r := by first | with_reducible rfl | (simp -implicitDefEqProofs (disch := omega) [go_sem] <;> omega)) (hn : NB H0.next r := by exact nbA) : Km r' H0 K H := Ax (he he0) e hn h
end Go.Idl
namespace Go.Idl
theorem vS {P Q : Prop} (q : Q) (e : Q → P := by intro q; refine vO ?_; refine sG ?_; exact q) : P := e q
end Go.Idl

namespace Go.Idl
set_option maxHeartbeats 8000000
set_option pp.deepTerms false
set_option maxRecDepth 60000
open Go Go.Proofs.Tryz
def S89.zero : S89 := ⟨[], []⟩
structure S33 where
 Ad : List UInt8
 Am : List UInt8
 fDn : List S89
 A5 : List (List (List UInt8))
deriving DecidableEq
def S33.zero : S33 := ⟨[], [], [], (List.replicate 8 [])⟩
structure S39 where
 Ad : List UInt8
 Am : List UInt8
 A5 : List (List (List UInt8))
deriving DecidableEq
def S39.zero : S39 := ⟨[], [], (List.replicate 8 [])⟩
structure S35 where
 fL : List S39
 fP : S33
deriving DecidableEq
def S35.zero : S35 := ⟨[], S33.zero⟩
structure S41 where
 Cu : Int
 Ai : S39
 fDn : List S89
deriving DecidableEq
abbrev k33 (x : S33) : List IV := .v (str x.Ad) :: .v (str x.Am) :: .sl 2 (x.fDn.map fun x => [.v (str x.fType), .v (str x.Aa)]) :: (x.A5.map fun x => .sl 1 (x.map fun x => [.v (str x)]))
@[go_sem] theorem k33_eq (x : S33) : k33 x = (.v (str x.Ad) :: .v (str x.Am) :: .sl 2 (x.fDn.map fun x => [.v (str x.fType), .v (str x.Aa)]) :: (x.A5.map fun x => .sl 1 (x.map fun x => [.v (str x)])) : List IV) := rfl
abbrev k39g (x : S39) : IV := .ag (.v (str x.Ad) :: .v (str x.Am) :: (x.A5.map fun x => .sl 1 (x.map fun x => [.v (str x)])))
@[go_sem] theorem k39g_eq (x : S39) : k39g x = (.ag (.v (str x.Ad) :: .v (str x.Am) :: (x.A5.map fun x => .sl 1 (x.map fun x => [.v (str x)]))) : IV) := rfl
abbrev k39 (x : S39) : List IV := .v (str x.Ad) :: .v (str x.Am) :: (x.A5.map fun x => .sl 1 (x.map fun x => [.v (str x)]))
@[go_sem] theorem k39_eq (x : S39) : k39 x = (.v (str x.Ad) :: .v (str x.Am) :: (x.A5.map fun x => .sl 1 (x.map fun x => [.v (str x)])) : List IV) := rfl
abbrev k41 (x : S41) : List IV := .v (.int .i64 x.Cu) :: .v (str x.Ai.Ad) :: .v (str x.Ai.Am) :: ((x.Ai.A5.map fun x => .sl 1 (x.map fun x => [.v (str x)])) ++ [.sl 2 (x.fDn.map fun x => [.v (str x.fType), .v (str x.Aa)])])
@[go_sem] theorem k41_eq (x : S41) : k41 x = (.v (.int .i64 x.Cu) :: .v (str x.Ai.Ad) :: .v (str x.Ai.Am) :: ((x.Ai.A5.map fun x => .sl 1 (x.map fun x => [.v (str x)])) ++ [.sl 2 (x.fDn.map fun x => [.v (str x.fType), .v (str x.Aa)])]) : List IV) := rfl
def S41.zero : S41 := ⟨0, S39.zero, []⟩
structure S78 where
 Bb : List UInt8
 Aa : List UInt8
deriving DecidableEq
def S78.zero : S78 := ⟨[], []⟩
noncomputable def F45 (a0 : S39) : Option S39 :=
 gd (a0.A5.length = 8) ((F58 a0.A5).bind fun (x4 : (List (List (List UInt8)))) => gd (x4.length = 8) (some (⟨a0.Ad, a0.Am, x4⟩ : S39)))
theorem Nb {H : A2} {K : Aw → A2 → Prop} (a0 : S39) {r : S39} (h : F45 a0 = some r) (hK : K (.ret (.ag (.v (str r.Ad) :: .v (str r.Am) :: (r.A5.map fun x => .sl 1 (x.map fun x => [.v (str x)]))))) H) : Ac prog 45 [.ag (.v (str a0.Ad) :: .v (str a0.Am) :: (a0.A5.map fun x => .sl 1 (x.map fun x => [.v (str x)])))] H K := by
 refine Ag (N := 8) func45 (by kernel_rfl) rfl (by kernel_rfl) (by kernel_rfl) fun cb hcb hw hbd hnb => ?_; clear hbd hnb; subst hcb; unfold F45 at h; obtain ⟨g2, h⟩ := Af.1 h; refine wG ?_; refine A3 fun cb hc3 => ?_; refine vF g2 ?_; obtain ⟨x4, hx4, h⟩ := A4 h; refine Q4 a0.A5 hx4 ?_; obtain ⟨g5, h⟩ := Af.1 h; refine sF (nd g2 g5) ?_; subst hc3; refine wF g5 ?_; refine vO ?_; obtain rfl := sI h; refine sF g5 ?_; exact Av (.refl hw) hK
noncomputable def F12  : Option ((List (List UInt8 × S39)) × (List (List UInt8 × (List UInt8))) × (Option S33)) :=
 some ([], [], none)
theorem Q5 {H : A2} {K : Aw → A2 → Prop}  {r : (List (List UInt8 × S39)) × (List (List UInt8 × (List UInt8))) × (Option S33)} (h : F12  = some r) (hK : K (.ret (.p H.next 0)) (newL H [.cells ([.mp (H.next + 1), .mp (H.next + 2), AT k33 r.2.2]), .map (mE k39g r.1), .map (mE (fun (x : List UInt8) => .v (str x)) r.2.1)])) : Ac prog 12 [] H K := by
 refine Ag (N := 6) func12 (by kernel_rfl) rfl (by kernel_rfl) (by kernel_rfl) fun cb hcb hw hbd hnb => ?_; clear hbd hnb; subst hcb; unfold F12 at h; refine wG ?_; refine A3 fun cb hc2 => ?_; refine v0 ?_; simp -implicitDefEqProofs (disch := omega) [go_sem, bdP]; subst hc2; obtain rfl := sI h; refine vS ?_; refine N7 (r := .p (H.next + 2) 0) (r' := .p H.next 0) rfl (HE (by exact Au (Ext.refl hw)) (ks := [H.next + 2, H.next, H.next + 1]) (os := [.cells ([.mp (H.next + 1), .mp (H.next + 2), AT k33 none]), .map (mE k39g []), .map (mE (fun (x : List UInt8) => .v (str x)) [])]) (.cons (o := .cells ([.mp H.next, .mp (H.next + 1), AT k33 none])) (by omega) (by (simp [go_sem]; done)) eA (.cells _ _ (.cons (.mpE (k := H.next + 1) (by simp [DA]) (by simp [go_sem])) (.cons (.mpE (k := H.next + 2) (by simp [DA]) (by simp [go_sem])) (.cons (.same _ (by exact nbA)) .nil)))) (.cons (o := .map (mE k39g [])) (by omega) (by (simp [go_sem]; done)) eA (.same _ (by exact C5)) (.cons (o := .map (mE (fun (x : List UInt8) => .v (str x)) [])) (by omega) (by (simp [go_sem]; done)) eA (.same _ (by exact C5)) .nil))) (by simp [List.nodup_cons] <;> omega)) (.pE (k := H.next) (by simp [DA]) (by simp [go_sem])) hK
noncomputable def F42 (Ae : List (List UInt8 × S39)) (Ah : List (List UInt8 × (List UInt8))) (Ar : Option S33) : Option Bool :=
 some false
theorem BT {H : A2} {K : Aw → A2 → Prop} (Ae : List (List UInt8 × S39)) (Ah : List (List UInt8 × (List UInt8))) (Ar : Option S33) (ka0 : Nat) (A7 : Nat) (A8 : Nat) (Aq : H.obj ka0 = some (.cells ([.mp A7, .mp A8, AT k33 Ar]))) (Aj : H.obj A7 = some (.map (mE k39g Ae))) (Al : H.obj A8 = some (.map (mE (fun (x : List UInt8) => .v (str x)) Ah))) {r : Bool} (h : F42 Ae Ah Ar = some r) (hK : K (.ret (.v (.bool r))) H) : Ac prog 42 [.p ka0 0] H K := by
 refine Ag (N := 13) func42 (by kernel_rfl) rfl (by kernel_rfl) (by kernel_rfl) fun cb hcb hw hbd hnb => ?_; clear hbd hnb; subst hcb; unfold F42 at h; have Db : ka0 < H.next := Nat.lt_of_not_le fun q => by rw [hw _ q] at Aq; cases Aq
 have Bu : A7 < H.next := Nat.lt_of_not_le fun q => by rw [hw _ q] at Aj; cases Aj
 have Bv : A8 < H.next := Nat.lt_of_not_le fun q => by rw [hw _ q] at Al; cases Al
 refine wG ?_; refine wF Aq ?_; obtain rfl := sI h; refine vS ?_; exact Av (.refl hw) hK
noncomputable def F52 (a0 : S33) : Option S33 :=
 gd (a0.A5.length = 8) ((F78 a0.fDn).bind fun (x4 : (List S89)) => (F58 a0.A5).bind fun (x5 : (List (List (List UInt8)))) => gd (x5.length = 8) (some (⟨a0.Ad, a0.Am, x4, x5⟩ : S33)))
theorem Nc {H : A2} {K : Aw → A2 → Prop} (a0 : S33) {r : S33} (h : F52 a0 = some r) (hK : K (.ret (.ag (.v (str r.Ad) :: .v (str r.Am) :: .sl 2 (r.fDn.map fun x => [.v (str x.fType), .v (str x.Aa)]) :: (r.A5.map fun x => .sl 1 (x.map fun x => [.v (str x)]))))) H) : Ac prog 52 [.ag (.v (str a0.Ad) :: .v (str a0.Am) :: .sl 2 (a0.fDn.map fun x => [.v (str x.fType), .v (str x.Aa)]) :: (a0.A5.map fun x => .sl 1 (x.map fun x => [.v (str x)])))] H K := by
 refine Ag (N := 12) func52 (by kernel_rfl) rfl (by kernel_rfl) (by kernel_rfl) fun cb hcb hw hbd hnb => ?_; clear hbd hnb; subst hcb; unfold F52 at h; obtain ⟨g2, h⟩ := Af.1 h; refine wG ?_; refine A3 fun cb hc3 => ?_; refine Ay [2, 5] [0, 1, 2, 3, 4, 5, 6, 7, 8, 9] (by kernel_rfl) (by kernel_rfl) (fun _ _ _ _ h => h) ?_; refine sF g2 ?_; obtain ⟨x4, hx4, h⟩ := A4 h; refine BN.mk _ (fun _ _ hK => aG a0.fDn hx4 hK) ?_; refine sF g2 ?_; obtain ⟨x5, hx5, h⟩ := A4 h; refine BN.mk _ (fun _ _ hK => Q4 a0.A5 hx5 hK) ?_; obtain ⟨g6, h⟩ := Af.1 h; refine sF (nd g2 g6) ?_; subst hc3; refine wF g6 ?_; refine vO ?_; obtain rfl := sI h; refine sF g6 ?_; exact Av (.refl hw) hK
noncomputable def F26 (Ae : List (List UInt8 × S39)) (Ah : List (List UInt8 × (List UInt8))) (Ar : Option S33) : Option (S33 × Bool) :=
 (F42 Ae Ah Ar).bind fun (x4 : Bool) => if Ar.isNone = true then (some (((⟨[], [], [], [[], [], [], [], [], [], [], []]⟩ : S33), false))) else (gd (Ar.isSome = true) (gd (((Ar.getD S33.zero).A5).length = 8) ((F52 (Ar.getD S33.zero)).bind fun (x11 : S33) => gd (x11.A5.length = 8) (some (x11, true)))))
theorem Q6 {H : A2} {K : Aw → A2 → Prop} (Ae : List (List UInt8 × S39)) (Ah : List (List UInt8 × (List UInt8))) (Ar : Option S33) (ka0 : Nat) (A7 : Nat) (A8 : Nat) (Aq : H.obj ka0 = some (.cells ([.mp A7, .mp A8, AT k33 Ar]))) (Aj : H.obj A7 = some (.map (mE k39g Ae))) (Al : H.obj A8 = some (.map (mE (fun (x : List UInt8) => .v (str x)) Ah))) {r : S33 × Bool} (h : F26 Ae Ah Ar = some r) (hK : K (.ret (.tu [.ag (.v (str r.1.Ad) :: .v (str r.1.Am) :: .sl 2 (r.1.fDn.map fun x => [.v (str x.fType), .v (str x.Aa)]) :: (r.1.A5.map fun x => .sl 1 (x.map fun x => [.v (str x)]))), .v (.bool r.2)])) H) : Ac prog 26 [.p ka0 0] H K := by
 refine Ag (N := 21) func26 (by kernel_rfl) rfl (by kernel_rfl) (by kernel_rfl) fun cb hcb hw hbd hnb => ?_; clear hbd hnb; subst hcb; unfold F26 at h; have Db : ka0 < H.next := Nat.lt_of_not_le fun q => by rw [hw _ q] at Aq; cases Aq
 have Bu : A7 < H.next := Nat.lt_of_not_le fun q => by rw [hw _ q] at Aj; cases Aj
 have Bv : A8 < H.next := Nat.lt_of_not_le fun q => by rw [hw _ q] at Al; cases Al
 refine wG ?_; refine A3 fun cb hc2 => ?_; refine A3 fun cb hc3 => ?_; refine vG ?_; obtain ⟨x4, hx4, h⟩ := A4 h; cases (show some false = some x4 from hx4); refine BT Ae Ah Ar ka0 A7 A8 (eF Aq) (eF Aj) (eF Al) hx4 ?_; refine sF Aq ?_; subst hc3; refine Ab h eA rfl ?_ ?_
 ·intro c5 h; simp (disch := omega) at c5; refine A3 fun cb hc6 => ?_; refine v0 ?_; simp -implicitDefEqProofs (disch := omega) [go_sem, bdP]; subst hc6; obtain rfl := sI h; refine vS ?_; refine As (J := H) (r' := _) (Ext.Cy (by exact Au (Ext.refl hw))) eA (.wk _ (.tu [.ag ([.v (str []), .v (str []), .sl 2 (([] : List S89).map fun x => [.v (str x.fType), .v (str x.Aa)]), .sl 1 ((([] : List (List UInt8))).map fun x => [.v (str x)]), .sl 1 ((([] : List (List UInt8))).map fun x => [.v (str x)]), .sl 1 ((([] : List (List UInt8))).map fun x => [.v (str x)]), .sl 1 ((([] : List (List UInt8))).map fun x => [.v (str x)]), .sl 1 ((([] : List (List UInt8))).map fun x => [.v (str x)]), .sl 1 ((([] : List (List UInt8))).map fun x => [.v (str x)]), .sl 1 ((([] : List (List UInt8))).map fun x => [.v (str x)]), .sl 1 ((([] : List (List UInt8))).map fun x => [.v (str x)])]), .v (.bool false)]) (by repeat (first | exact WkL.nil | refine WkL.cons ?_ ?_ | exact Wk.refl _ | exact Wk.nil _ | refine Wk.agL ?_ | refine Wk.tuL ?_)) (by exact nbA)) hK
 intro c5 h; simp (disch := omega) at c5; refine vO ?_; subst hc2; refine A3 fun cb hc7 => ?_; obtain ⟨g8, h⟩ := Af.1 h; refine v0 ?_; have ho9 := Um (f := k33) (d := S33.zero) g8; obtain ⟨g10, h⟩ := Af.1 h; refine sF (nd Aq (nd ho9 g10)) ?_; obtain ⟨x11, hx11, h⟩ := A4 h; refine Nc (Ar.getD S33.zero) hx11 ?_; obtain ⟨g12, h⟩ := Af.1 h; refine sF g12 ?_; subst hc7; refine vO ?_; obtain rfl := sI h; refine sF g12 ?_; exact Av (.refl hw) hK
noncomputable def Uw (a0 : List UInt8) (a1 : List UInt8) : Option Bool :=
 if (a1.length : Int) ≤ (a0.length : Int) then (gd (0 ≤ (a1.length : Int)) (gd ((a1.length : Int) ≤ a0.length) (some (decide (((a0.take (a1.length : Int).toNat)) = a1))))) else (some false)
theorem Xp {H : A2} {K : Aw → A2 → Prop} (a0 : List UInt8) (a1 : List UInt8) {r : Bool} (h : Uw a0 a1 = some r) (hK : K (.ret (.v (.bool r))) H) : Ac prog 138 [.v (str a0), .v (str a1)] H K := by
 refine Ag (N := 18) func138 (by kernel_rfl) rfl (by kernel_rfl) (by kernel_rfl) fun cb hcb hw hbd hnb => ?_; clear hbd hnb; subst hcb; unfold Uw at h; refine wG ?_; refine A3 fun cb hc2 => ?_; refine vG ?_; refine A6 h eA ?_ ?_
 ·intro c5 h; simp (disch := omega) at c5; obtain ⟨g3, h⟩ := gS h; obtain ⟨g4, h⟩ := gS h; refine sG ?_; subst hc2; obtain rfl := sI h; refine vS ?_; exact Av (.refl hw) hK
 intro c5 h; simp (disch := omega) at c5; refine sG ?_; subst hc2; obtain rfl := sI h; refine vS ?_; exact Av (.refl hw) hK
noncomputable def Ux (a0 : List UInt8) (a1 : List UInt8) : Option ((List UInt8) × Bool) :=
 (Uw a0 a1).bind fun (x4 : Bool) => if ¬ (x4 = true) then (some (a0, false)) else (gd (0 ≤ (a1.length : Int)) (gd ((a1.length : Int) ≤ a0.length) (some ((a0.drop (a1.length : Int).toNat, true)))))
theorem Xq {H : A2} {K : Aw → A2 → Prop} (a0 : List UInt8) (a1 : List UInt8) {r : (List UInt8) × Bool} (h : Ux a0 a1 = some r) (hK : K (.ret (.tu [.v (str r.1), .v (.bool r.2)])) H) : Ac prog 100 [.v (str a0), .v (str a1)] H K := by
 refine Ag (N := 15) func100 (by kernel_rfl) rfl (by kernel_rfl) (by kernel_rfl) fun cb hcb hw hbd hnb => ?_; clear hbd hnb; subst hcb; unfold Ux at h; refine wG ?_; refine A3 fun cb hc2 => ?_; refine A3 fun cb hc3 => ?_; refine vG ?_; obtain ⟨x4, hx4, h⟩ := A4 h; refine Xp a0 a1 hx4 ?_; refine sG ?_; subst hc3; refine Ab h eA rfl ?_ ?_
 ·intro c5 h; simp (disch := omega) at c5; refine wG ?_; obtain rfl := sI h; refine vS ?_; exact Av (.refl hw) hK
 intro c5 h; simp (disch := omega) at c5; refine vO ?_; subst hc2; obtain ⟨g8, h⟩ := gS h; obtain ⟨g9, h⟩ := gS h; refine wG ?_; obtain rfl := sI h; refine vS ?_; exact Av (.refl hw) hK
noncomputable def F64 (a0 : List UInt8) (a1 : List UInt8) : Option ((List UInt8) × Bool) :=
 (Ux a0 a1).bind fun (x3 : (List UInt8) × Bool) => some (x3.1, x3.2)
theorem Uy {H : A2} {K : Aw → A2 → Prop} (a0 : List UInt8) (a1 : List UInt8) {r : (List UInt8) × Bool} (h : F64 a0 a1 = some r) (hK : K (.ret (.tu [.v (str r.1), .v (.bool r.2)])) H) : Ac prog 64 [.v (str a0), .v (str a1)] H K := by
 refine Ag (N := 11) func64 (by kernel_rfl) rfl (by kernel_rfl) (by kernel_rfl) fun cb hcb hw hbd hnb => ?_; clear hbd hnb; subst hcb; unfold F64 at h; refine wG ?_; refine A3 fun cb hc2 => ?_; refine vG ?_; obtain ⟨x3, hx3, h⟩ := A4 h; refine Xq a0 a1 hx3 ?_; refine sG ?_; subst hc2; obtain rfl := sI h; refine vS ?_; exact Av (.refl hw) hK
noncomputable def Uz (a0 : Int) : Option Bool :=
 if 97 ≤ a0 then (if a0 ≤ 122 then (some true) else (if 65 ≤ a0 then (if a0 ≤ 90 then (some true) else (if 48 ≤ a0 then (if a0 ≤ 57 then (some true) else (if a0 = 45 then (some true) else (if a0 = 46 then (some true) else (some (decide (a0 = 95)))))) else (if a0 = 45 then (some true) else (if a0 = 46 then (some true) else (some (decide (a0 = 95))))))) else (if 48 ≤ a0 then (if a0 ≤ 57 then (some true) else (if a0 = 45 then (some true) else (if a0 = 46 then (some true) else (some (decide (a0 = 95)))))) else (if a0 = 45 then (some true) else (if a0 = 46 then (some true) else (some (decide (a0 = 95)))))))) else (if 65 ≤ a0 then (if a0 ≤ 90 then (some true) else (if 48 ≤ a0 then (if a0 ≤ 57 then (some true) else (if a0 = 45 then (some true) else (if a0 = 46 then (some true) else (some (decide (a0 = 95)))))) else (if a0 = 45 then (some true) else (if a0 = 46 then (some true) else (some (decide (a0 = 95))))))) else (if 48 ≤ a0 then (if a0 ≤ 57 then (some true) else (if a0 = 45 then (some true) else (if a0 = 46 then (some true) else (some (decide (a0 = 95)))))) else (if a0 = 45 then (some true) else (if a0 = 46 then (some true) else (some (decide (a0 = 95)))))))
theorem Xr {H : A2} {K : Aw → A2 → Prop} (a0 : Int) {r : Bool} (h : Uz a0 = some r) (hK : K (.ret (.v (.bool r))) H) : Ac prog 122 [.v (.int .u8 a0)] H K := by
 refine Ag (N := 37) func122 (by kernel_rfl) rfl (by kernel_rfl) (by kernel_rfl) fun cb hcb hw hbd hnb => ?_; clear hbd hnb; subst hcb; unfold Uz at h; refine wG ?_; refine A3 fun cb hc2 => ?_; refine vG ?_; refine A6 h rfl ?_ ?_
 ·intro c32 h; refine sG ?_; refine A6 h rfl ?_ ?_
  ·intro c17 h; refine sG ?_; subst hc2; obtain rfl := sI h; refine vS ?_; exact Av (.refl hw) hK
  intro c17 h; simp (disch := omega) at c17; refine sG ?_; refine A6 h rfl ?_ ?_
  ·intro c16 h; refine sG ?_; refine A6 h rfl ?_ ?_
   ·intro c9 h; refine sG ?_; subst hc2; obtain rfl := sI h; refine vS ?_; exact Av (.refl hw) hK
   intro c9 h; simp (disch := omega) at c9; refine sG ?_; refine A6 h rfl ?_ ?_
   ·intro c8 h; refine sG ?_; refine A6 h rfl ?_ ?_
    ·intro c5 h; refine sG ?_; subst hc2; obtain rfl := sI h; refine vS ?_; exact Av (.refl hw) hK
    intro c5 h; simp (disch := omega) at c5; refine sG ?_; refine A6 h rfl ?_ ?_
    ·intro c4 h; refine sG ?_; subst hc2; obtain rfl := sI h; refine vS ?_; exact Av (.refl hw) hK
    intro c4 h; refine sG ?_; refine A6 h rfl ?_ ?_
    ·intro c3 h; refine sG ?_; subst hc2; obtain rfl := sI h; refine vS ?_; exact Av (.refl hw) hK
    intro c3 h; refine sG ?_; subst hc2; obtain rfl := sI h; refine vS ?_; exact Av (.refl hw) hK
   intro c8 h; simp (disch := omega) at c8; refine sG ?_; refine A6 h rfl ?_ ?_
   ·intro c7 h; refine sG ?_; subst hc2; obtain rfl := sI h; refine vS ?_; exact Av (.refl hw) hK
   intro c7 h; refine sG ?_; refine A6 h rfl ?_ ?_
   ·intro c6 h; refine sG ?_; subst hc2; obtain rfl := sI h; refine vS ?_; exact Av (.refl hw) hK
   intro c6 h; refine sG ?_; subst hc2; obtain rfl := sI h; refine vS ?_; exact Av (.refl hw) hK
  intro c16 h; simp (disch := omega) at c16; refine sG ?_; refine A6 h rfl ?_ ?_
  ·intro c15 h; refine sG ?_; refine A6 h rfl ?_ ?_
   ·intro c12 h; refine sG ?_; subst hc2; obtain rfl := sI h; refine vS ?_; exact Av (.refl hw) hK
   intro c12 h; simp (disch := omega) at c12; refine sG ?_; refine A6 h rfl ?_ ?_
   ·intro c11 h; refine sG ?_; subst hc2; obtain rfl := sI h; refine vS ?_; exact Av (.refl hw) hK
   intro c11 h; refine sG ?_; refine A6 h rfl ?_ ?_
   ·intro c10 h; refine sG ?_; subst hc2; obtain rfl := sI h; refine vS ?_; exact Av (.refl hw) hK
   intro c10 h; refine sG ?_; subst hc2; obtain rfl := sI h; refine vS ?_; exact Av (.refl hw) hK
  intro c15 h; simp (disch := omega) at c15; refine sG ?_; refine A6 h rfl ?_ ?_
  ·intro c14 h; refine sG ?_; subst hc2; obtain rfl := sI h; refine vS ?_; exact Av (.refl hw) hK
  intro c14 h; refine sG ?_; refine A6 h rfl ?_ ?_
  ·intro c13 h; refine sG ?_; subst hc2; obtain rfl := sI h; refine vS ?_; exact Av (.refl hw) hK
  intro c13 h; refine sG ?_; subst hc2; obtain rfl := sI h; refine vS ?_; exact Av (.refl hw) hK
 intro c32 h; simp (disch := omega) at c32; refine sG ?_; refine A6 h rfl ?_ ?_
 ·intro c31 h; refine sG ?_; refine A6 h rfl ?_ ?_
  ·intro c24 h; refine sG ?_; subst hc2; obtain rfl := sI h; refine vS ?_; exact Av (.refl hw) hK
  intro c24 h; simp (disch := omega) at c24; refine sG ?_; refine A6 h rfl ?_ ?_
  ·intro c23 h; refine sG ?_; refine A6 h rfl ?_ ?_
   ·intro c20 h; refine sG ?_; subst hc2; obtain rfl := sI h; refine vS ?_; exact Av (.refl hw) hK
   intro c20 h; simp (disch := omega) at c20; refine sG ?_; refine A6 h rfl ?_ ?_
   ·intro c19 h; refine sG ?_; subst hc2; obtain rfl := sI h; refine vS ?_; exact Av (.refl hw) hK
   intro c19 h; refine sG ?_; refine A6 h rfl ?_ ?_
   ·intro c18 h; refine sG ?_; subst hc2; obtain rfl := sI h; refine vS ?_; exact Av (.refl hw) hK
   intro c18 h; refine sG ?_; subst hc2; obtain rfl := sI h; refine vS ?_; exact Av (.refl hw) hK
  intro c23 h; simp (disch := omega) at c23; refine sG ?_; refine A6 h rfl ?_ ?_
  ·intro c22 h; refine sG ?_; subst hc2; obtain rfl := sI h; refine vS ?_; exact Av (.refl hw) hK
  intro c22 h; refine sG ?_; refine A6 h rfl ?_ ?_
  ·intro c21 h; refine sG ?_; subst hc2; obtain rfl := sI h; refine vS ?_; exact Av (.refl hw) hK
  intro c21 h; refine sG ?_; subst hc2; obtain rfl := sI h; refine vS ?_; exact Av (.refl hw) hK
 intro c31 h; simp (disch := omega) at c31; refine sG ?_; refine A6 h rfl ?_ ?_
 ·intro c30 h; refine sG ?_; refine A6 h rfl ?_ ?_
  ·intro c27 h; refine sG ?_; subst hc2; obtain rfl := sI h; refine vS ?_; exact Av (.refl hw) hK
  intro c27 h; simp (disch := omega) at c27; refine sG ?_; refine A6 h rfl ?_ ?_
  ·intro c26 h; refine sG ?_; subst hc2; obtain rfl := sI h; refine vS ?_; exact Av (.refl hw) hK
  intro c26 h; refine sG ?_; refine A6 h rfl ?_ ?_
  ·intro c25 h; refine sG ?_; subst hc2; obtain rfl := sI h; refine vS ?_; exact Av (.refl hw) hK
  intro c25 h; refine sG ?_; subst hc2; obtain rfl := sI h; refine vS ?_; exact Av (.refl hw) hK
 intro c30 h; simp (disch := omega) at c30; refine sG ?_; refine A6 h rfl ?_ ?_
 ·intro c29 h; refine sG ?_; subst hc2; obtain rfl := sI h; refine vS ?_; exact Av (.refl hw) hK
 intro c29 h; refine sG ?_; refine A6 h rfl ?_ ?_
 ·intro c28 h; refine sG ?_; subst hc2; obtain rfl := sI h; refine vS ?_; exact Av (.refl hw) hK
 intro c28 h; refine sG ?_; subst hc2; obtain rfl := sI h; refine vS ?_; exact Av (.refl hw) hK
noncomputable def JN  : Option Bool :=
 some true
noncomputable def HH (a0 : List UInt8) (v6 : Int) : Option (Int ⊕ (Unit ⊕ Bool)) :=
 if v6 < (a0.length : Int) then (gd (0 ≤ v6 ∧ v6 < a0.length) ((Uz (((a0.getD v6.toNat 0).toNat : Int))).bind fun (x15 : Bool) => if ¬ (x15 = true) then (some (.inr (.inr false))) else (some (.inl (IntKind.i64.wrap (v6 + 1)))))) else (some (.inr (.inl ())))
noncomputable def UA (a0 : List UInt8) : Option Bool :=
 gd ((a0.length : Int) ≤ 9223372036854775807) ((AE (fun (s : Int) => HH a0 s) 0).bind fun y => Sum.elim (fun (e : Unit) => JN) (fun (q : Bool) => some q) y)
theorem Xs {H : A2} {K : Aw → A2 → Prop} (a0 : List UInt8) {r : Bool} (h : UA a0 = some r) (hK : K (.ret (.v (.bool r))) H) : Ac prog 123 [.v (str a0), .v (.func (.func 122) #[] #[])] H K := by
 refine Ag (N := 19) func123 (by kernel_rfl) rfl (by kernel_rfl) (by kernel_rfl) fun cb hcb hw hbd hnb => ?_; clear hbd hnb; subst hcb; unfold UA at h; refine wG ?_; refine A3 fun cb hc2 => ?_; refine A3 fun cb hc3 => ?_; obtain ⟨g4, h⟩ := Af.1 h; refine vG ?_; refine FO a0 rfl (by kernel_rfl) underlying9 underlying131 underlying5 (by (simp -implicitDefEqProofs (disch := omega) [go_sem]; done)) (by omega) ?_; refine sG ?_; subst hc3; obtain ⟨y5, hl5q, hk5⟩ := A4 h; refine Az (fun tm' H' => .inl () = y5 ∧ H = H') ?_ fun cb hc5 => ?_
 ·rintro tm5e H5e ⟨rfl, rfl⟩
  have h : JN = some r := hk5; unfold JN at h; simp -implicitDefEqProofs only [go_sem]; subst hc2; refine wG ?_; obtain rfl := sI h; refine vS ?_; exact Av (.refl hw) hK
 refine Ak ?_; refine AA (fun (s : Int) tm' H' => H = H' ∧ tm' 1 = .v (.func (.func 122) #[] #[]) ∧ tm' 8 = .sl 1 (a0.map fun x => [.v (.int .u8 x.toNat)]) ∧ tm' 9 = .v (.int .i64 (a0.length : Int)) ∧ tm' 10 = .v (.int .i64 s)) hl5q ?_ ?_
 ·exact sm
 rintro I5 hI5 v6 x5 tm5 H5 ⟨rfl, JE, IK, j3, UB⟩ h hret5
 replace h : HH a0 v6 = some x5 := h; unfold HH at h; refine wF (nd j3 UB) ?_; refine A3 fun cb hc9 => ?_; refine Ab h eA rfl ?_ ?_
 ·intro c10 h; refine vO ?_; subst hc9; refine A3 fun cb hc11 => ?_; refine Ak ?_; obtain ⟨g13, h⟩ := Af.1 h; refine wF (nd IK UB) ?_; refine A3 fun cb hc14 => ?_; refine vF JE ?_; obtain ⟨x15, hx15, h⟩ := A4 h; refine Ac.eqA eA (Xr (((a0.getD v6.toNat 0).toNat : Int)) hx15 ?_); refine sG ?_; subst hc14; refine Ab h eA rfl ?_ ?_
  ·intro c16 h; simp (disch := omega) at c16; refine wG ?_; refine vO ?_; obtain rfl := sI h; obtain rfl := hret5 _ rfl; replace h : some false = some r := hk5; obtain rfl := sI h; refine sG ?_; exact Av (.refl hw) hK
  intro c16 h; simp (disch := omega) at c16; refine vO ?_; subst hc11; refine vF UB ?_; obtain rfl := sI h; refine An hI5 (IntKind.i64.wrap (v6 + 1)) ?_; exact smF (nd JE (nd IK j3))
 intro c10 h; simp (disch := omega) at c10; refine vO ?_; obtain rfl := sI h; have hy5 := hret5 _ rfl; refine hc5 _ _ ?_; refine .same ⟨hy5, rfl⟩
noncomputable def F83 (a0 : List UInt8) : Option Bool :=
 if 1 ≤ (a0.length : Int) then (if (a0.length : Int) ≤ 64 then ((UA a0).bind fun (x4 : Bool) => some x4) else (some false)) else (some false)
theorem aH {H : A2} {K : Aw → A2 → Prop} (a0 : List UInt8) {r : Bool} (h : F83 a0 = some r) (hK : K (.ret (.v (.bool r))) H) : Ac prog 83 [.v (str a0)] H K := by
 refine Ag (N := 17) func83 (by kernel_rfl) rfl (by kernel_rfl) (by kernel_rfl) fun cb hcb hw hbd hnb => ?_; clear hbd hnb; subst hcb; unfold F83 at h; refine wG ?_; refine wG ?_; refine A3 fun cb hc3 => ?_; refine vG ?_; refine A6 h rfl ?_ ?_
 ·intro c6 h; refine sG ?_; refine A6 h rfl ?_ ?_
  ·intro c5 h; refine sG ?_; obtain ⟨x4, hx4, h⟩ := A4 h; refine Xs a0 hx4 ?_; refine sG ?_; subst hc3; obtain rfl := sI h; refine vS ?_; exact Av (.refl hw) hK
  intro c5 h; simp (disch := omega) at c5; refine sG ?_; subst hc3; obtain rfl := sI h; refine vS ?_; exact Av (.refl hw) hK
 intro c6 h; simp (disch := omega) at c6; refine sG ?_; subst hc3; obtain rfl := sI h; refine vS ?_; exact Av (.refl hw) hK
noncomputable def F55 (a0 : List UInt8) : Option Bool :=
 (F64 a0 ([47, 98, 111, 111, 107, 47])).bind fun (x3 : (List UInt8) × Bool) => if x3.2 = true then ((F83 x3.1).bind fun (x5 : Bool) => some x5) else (some false)
theorem Nd {H : A2} {K : Aw → A2 → Prop} (a0 : List UInt8) {r : Bool} (h : F55 a0 = some r) (hK : K (.ret (.v (.bool r))) H) : Ac prog 55 [.v (str a0)] H K := by
 refine Ag (N := 15) func55 (by kernel_rfl) rfl (by kernel_rfl) (by kernel_rfl) fun cb hcb hw hbd hnb => ?_; clear hbd hnb; subst hcb; unfold F55 at h; refine wG ?_; refine A3 fun cb hc2 => ?_; refine vG ?_; obtain ⟨x3, hx3, h⟩ := A4 h; refine Uy a0 ([47, 98, 111, 111, 107, 47]) hx3 ?_; refine sG ?_; subst hc2; refine A3 fun cb hc4 => ?_; refine vG ?_; refine A6 h eA ?_ ?_
 ·intro c6 h; refine sG ?_; obtain ⟨x5, hx5, h⟩ := A4 h; refine aH x3.1 hx5 ?_; refine sG ?_; subst hc4; obtain rfl := sI h; refine vS ?_; exact Av (.refl hw) hK
 intro c6 h; simp (disch := omega) at c6; refine sG ?_; subst hc4; obtain rfl := sI h; refine vS ?_; exact Av (.refl hw) hK
noncomputable def Nf (a0 : List UInt8) : Option Bool :=
 if 1 ≤ (a0.length : Int) then (some (decide ((a0.length : Int) ≤ 64))) else (some false)
noncomputable def KV (a0 : List UInt8) (v6 : Int) : Option (Int ⊕ (Unit ⊕ Bool)) :=
 if v6 < (a0.length : Int) then (gd (0 ≤ v6 ∧ v6 < a0.length) (if (((a0.getD v6.toNat 0).toNat : Int)) < 33 then (some (.inr (.inr false))) else (if 126 < (((a0.getD v6.toNat 0).toNat : Int)) then (some (.inr (.inr false))) else (some (.inl (IntKind.i64.wrap (v6 + 1))))))) else (some (.inr (.inl ())))
noncomputable def F53 (a0 : List UInt8) : Option Bool :=
 gd ((a0.length : Int) ≤ 9223372036854775807) ((AE (fun (s : Int) => KV a0 s) 0).bind fun y => Sum.elim (fun (e : Unit) => Nf a0) (fun (q : Bool) => some q) y)
theorem UC {H : A2} {K : Aw → A2 → Prop} (a0 : List UInt8) {r : Bool} (h : F53 a0 = some r) (hK : K (.ret (.v (.bool r))) H) : Ac prog 53 [.v (str a0)] H K := by
 refine Ag (N := 27) func53 (by kernel_rfl) rfl (by kernel_rfl) (by kernel_rfl) fun cb hcb hw hbd hnb => ?_; clear hbd hnb; subst hcb; unfold F53 at h; refine wG ?_; refine A3 fun cb hc2 => ?_; refine A3 fun cb hc3 => ?_; obtain ⟨g4, h⟩ := Af.1 h; refine vG ?_; refine FO a0 rfl (by kernel_rfl) underlying9 underlying131 underlying5 (by (simp -implicitDefEqProofs (disch := omega) [go_sem]; done)) (by omega) ?_; refine sG ?_; subst hc3; obtain ⟨y5, hl5q, hk5⟩ := A4 h; refine Az (fun tm' H' => .inl () = y5 ∧ H = H' ∧ tm' 0 = .v (str a0)) ?_ fun cb hc5 => ?_
 ·rintro tm5e H5e ⟨rfl, rfl, t0_5e⟩
  have h : Nf a0 = some r := hk5; unfold Nf at h; simp -implicitDefEqProofs only [go_sem]; subst hc2; refine A3 fun cb hc7 => ?_; refine vF t0_5e ?_; refine A6 h rfl ?_ ?_
  ·intro c8 h; refine sF t0_5e ?_; subst hc7; obtain rfl := sI h; refine vS ?_; exact Av (.refl hw) hK
  intro c8 h; simp (disch := omega) at c8; refine sG ?_; subst hc7; obtain rfl := sI h; refine vS ?_; exact Av (.refl hw) hK
 refine Ak ?_; refine AA (fun (s : Int) tm' H' => H = H' ∧ tm' 0 = .v (str a0) ∧ tm' 6 = .sl 1 (a0.map fun x => [.v (.int .u8 x.toNat)]) ∧ tm' 7 = .v (.int .i64 (a0.length : Int)) ∧ tm' 8 = .v (.int .i64 s)) hl5q ?_ ?_
 ·exact sm
 rintro I5 hI5 v6 x5 tm5 H5 ⟨rfl, Dg, OK, OL, IK⟩ h hret5
 replace h : KV a0 v6 = some x5 := h; unfold KV at h; refine wF (nd OL IK) ?_; refine A3 fun cb hc10 => ?_; refine Ab h eA rfl ?_ ?_
 ·intro c11 h; refine vO ?_; subst hc10; refine A3 fun cb hc12 => ?_; refine Ak ?_; obtain ⟨g14, h⟩ := Af.1 h; refine wF (nd OK IK) ?_; refine A3 fun cb hc15 => ?_; refine vG ?_; refine A6 h eA ?_ ?_
  ·intro c19 h; simp (disch := omega) at c19; refine sG ?_; subst hc15; refine Ao eA rfl ?_; refine wG ?_; refine vO ?_; obtain rfl := sI h; obtain rfl := hret5 _ rfl; replace h : some false = some r := hk5; obtain rfl := sI h; refine sG ?_; exact Av (.refl hw) hK
  intro c19 h; simp (disch := omega) at c19; refine sG ?_; subst hc15; refine Ab h eA rfl ?_ ?_
  ·intro c17 h; simp (disch := omega) at c17; refine wG ?_; refine vO ?_; obtain rfl := sI h; obtain rfl := hret5 _ rfl; replace h : some false = some r := hk5; obtain rfl := sI h; refine sG ?_; exact Av (.refl hw) hK
  intro c17 h; simp (disch := omega) at c17; refine vO ?_; subst hc12; refine vF IK ?_; obtain rfl := sI h; refine An hI5 (IntKind.i64.wrap (v6 + 1)) ?_; exact smF (nd Dg (nd OK OL))
 intro c11 h; simp (disch := omega) at c11; refine vO ?_; obtain rfl := sI h; have hy5 := hret5 _ rfl; refine hc5 _ _ ?_; refine .same ⟨hy5, rfl, by (simp -implicitDefEqProofs (disch := omega) [go_sem, Dg] <;> omega)⟩
noncomputable def F57 (a0c_0_0 : List (List UInt8 × S39)) (a0c_0_1 : List (List UInt8 × (List UInt8))) (a0c_1 : Option S33) (a1 : S39) : Option Bool :=
 gd ((((AY a0c_0_0 a1.Ad).getD S39.zero).A5).length = 8) (if (AY a0c_0_0 a1.Ad).isSome = true then (some true) else (some ((AY a0c_0_1 a1.Am).isSome)))
theorem aI {H : A2} {K : Aw → A2 → Prop} (a0c_0_0 : List (List UInt8 × S39)) (a0c_0_1 : List (List UInt8 × (List UInt8))) (a0c_1 : Option S33) (a1 : S39) (ka0 : Nat) (ka0c : Nat) (ka0c_0_0 : Nat) (ka0c_0_1 : Nat) (ka1 : Nat) (Aq : H.obj ka0 = some (.cells ([.p ka0c 0]))) (oka0c : H.obj ka0c = some (.cells ([.mp ka0c_0_0, .mp ka0c_0_1, AT k33 a0c_1]))) (oka0c_0_0 : H.obj ka0c_0_0 = some (.map (mE k39g a0c_0_0))) (oka0c_0_1 : H.obj ka0c_0_1 = some (.map (mE (fun (x : List UInt8) => .v (str x)) a0c_0_1))) (HI : H.obj ka1 = some (.cells (.v (str a1.Ad) :: .v (str a1.Am) :: (a1.A5.map fun x => .sl 1 (x.map fun x => [.v (str x)]))))) {r : Bool} (h : F57 a0c_0_0 a0c_0_1 a0c_1 a1 = some r) (hK : K (.ret (.v (.bool r))) H) : Ac prog 57 [.p ka0 0, .p ka1 0] H K := by
 refine Ag (N := 33) func57 (by kernel_rfl) rfl (by kernel_rfl) (by kernel_rfl) fun cb hcb hw hbd hnb => ?_; clear hbd hnb; subst hcb; unfold F57 at h; have Db : ka0 < H.next := Nat.lt_of_not_le fun q => by rw [hw _ q] at Aq; cases Aq
 have hka0c : ka0c < H.next := Nat.lt_of_not_le fun q => by rw [hw _ q] at oka0c; cases oka0c
 have hka0c_0_0 : ka0c_0_0 < H.next := Nat.lt_of_not_le fun q => by rw [hw _ q] at oka0c_0_0; cases oka0c_0_0
 have hka0c_0_1 : ka0c_0_1 < H.next := Nat.lt_of_not_le fun q => by rw [hw _ q] at oka0c_0_1; cases oka0c_0_1
 have aJ : ka1 < H.next := Nat.lt_of_not_le fun q => by rw [hw _ q] at HI; cases HI
 refine wG ?_; refine A3 fun cb hc2 => ?_; refine Ay [] [0, 1, 2, 3, 4, 5, 6, 7, 8, 9, 10, 11, 12, 13] (by kernel_rfl) (by kernel_rfl) (fun _ _ _ _ h => h) ?_; have hmL58 := @F2 _ k39g; have hmT58 := fun o => Oq k39g S39.zero (z := .ag [.v (.string ⟨#[]⟩), .v (.string ⟨#[]⟩), .sl 1 [], .sl 1 [], .sl 1 [], .sl 1 [], .sl 1 [], .sl 1 [], .sl 1 [], .sl 1 []]) (o := o) (by rfl); obtain ⟨g3, h⟩ := Af.1 h; refine sF (nd oka0c_0_0 (nd oka0c (nd Aq (nd HI (nd @hmL58 (nd @hmT58 g3)))))) ?_; subst hc2; refine A3 fun cb hc4 => ?_; refine Ay [] [0, 1, 2, 3, 4, 5, 6, 7, 8, 9, 10, 11, 12] (by kernel_rfl) (by kernel_rfl) (fun _ _ _ _ h => h) ?_; have hmL59 := @F2 _ (fun (x : List UInt8) => .v (str x)); have hmT59 := fun o => Oq (fun (x : List UInt8) => .v (str x)) ([] : List UInt8) (z := .v (str ([] : List UInt8))) (o := o) (by rfl); refine sF (nd oka0c_0_1 (nd oka0c (nd Aq (nd HI (nd @hmL59 @hmT59))))) ?_; subst hc4; refine A3 fun cb hc5 => ?_; refine vG ?_; refine A6 h eA ?_ ?_
 ·intro c6 h; refine sG ?_; subst hc5; obtain rfl := sI h; refine vS ?_; exact Av (.refl hw) hK
 intro c6 h; simp (disch := omega) at c6; refine sG ?_; subst hc5; obtain rfl := sI h; refine vS ?_; exact Av (.refl hw) hK
noncomputable def F49 (HJ : List (List UInt8 × S39)) (Ar : List (List UInt8 × (List UInt8))) (a1 : S39) : Option ((List (List UInt8 × S39)) × (List (List UInt8 × (List UInt8)))) :=
 gd (a1.A5.length = 8) (some (AU HJ a1.Ad a1, AU Ar a1.Am a1.Ad))
theorem UD {H : A2} {K : Aw → A2 → Prop} (HJ : List (List UInt8 × S39)) (Ar : List (List UInt8 × (List UInt8))) (a1 : S39) (D5 : Nat) (D6 : Nat) (Fj : H.obj D5 = some (.map (mE k39g HJ))) (GJ : H.obj D6 = some (.map (mE (fun (x : List UInt8) => .v (str x)) Ar))) (Cv : ¬ D5 = D6) {r : (List (List UInt8 × S39)) × (List (List UInt8 × (List UInt8)))} (h : F49 HJ Ar a1 = some r) (hK : K (.ret (.tu [])) (BJ H [(D5, .map (mE k39g r.1)), (D6, .map (mE (fun (x : List UInt8) => .v (str x)) r.2))])) : Ac prog 49 [.ag [.mp D5, .mp D6], .ag (.v (str a1.Ad) :: .v (str a1.Am) :: (a1.A5.map fun x => .sl 1 (x.map fun x => [.v (str x)])))] H K := by
 refine Ag (N := 15) func49 (by kernel_rfl) rfl (by kernel_rfl) (by kernel_rfl) fun cb hcb hw hbd hnb => ?_; clear hbd hnb; subst hcb; unfold F49 at h; have aK : D5 < H.next := Nat.lt_of_not_le fun q => by rw [hw _ q] at Fj; cases Fj
 have aL : D6 < H.next := Nat.lt_of_not_le fun q => by rw [hw _ q] at GJ; cases GJ
 have HK : ¬ D6 = D5 := fun q => Cv q.symm; obtain ⟨g2, h⟩ := Af.1 h; refine wG ?_; refine Ay [] [0, 1, 2, 3, 4, 5, 6, 7, 8, 9, 10, 11, 12] (by kernel_rfl) (by kernel_rfl) (fun _ _ _ _ h => h) ?_; have hmS58 := fun m k v => Q_ k39g m k v; have hmi3 := hmS58 HJ a1.Ad a1; have hmS59 := fun m k v => Q_ (fun (x : List UInt8) => .v (str x)) m k v; have hmi4 := hmS59 Ar a1.Am a1.Ad; refine sF (nd Fj (nd GJ (nd g2 (nd @hmS58 @hmS59)))) ?_; obtain rfl := sI h; refine As (r' := .tu []) (BI.ioL [(D5, .map (mE k39g (AU HJ a1.Ad a1))), (D6, .map (mE (fun (x : List UInt8) => .v (str x)) (AU Ar a1.Am a1.Ad)))] (by simp only [AX, B6]; exact Au (Ext.AK (Ext.AK (Ext.refl hw) D5) D6)) (by intro p hp; simp only [List.mem_cons, List.not_mem_nil, or_false] at hp; (try rcases hp with hp | hp); all_goals (subst hp; refine ⟨by omega, by simp -implicitDefEqProofs (disch := omega) [go_sem], by exact C5⟩))) rfl (.same (by exact nbA)) hK
noncomputable def F29 (Ae : List (List UInt8 × S39)) (Ah : List (List UInt8 × (List UInt8))) (Ar : Option S33) (a1 : S39) : Option (Int × (List (List UInt8 × S39)) × (List (List UInt8 × (List UInt8)))) :=
 gd (a1.A5.length = 8) ((F42 Ae Ah Ar).bind fun (x8 : Bool) => (F55 a1.Ad).bind fun (x12 : Bool) => if ¬ (x12 = true) then (some (2, Ae, Ah)) else ((F53 a1.Am).bind fun (x15 : Bool) => if ¬ (x15 = true) then (some (2, Ae, Ah)) else ((F56 a1.A5).bind fun (x18 : Int) => if ¬ x18 = 0 then (some (2, Ae, Ah)) else ((F57 Ae Ah Ar a1).bind fun (x25 : Bool) => if x25 = true then (some (300, Ae, Ah)) else (if 64 ≤ (Ae.length : Int) then (some (3, Ae, Ah)) else ((F45 a1).bind fun (x36 : S39) => (F49 Ae Ah x36).bind fun (x37 : (List (List UInt8 × S39)) × (List (List UInt8 × (List UInt8)))) => some (0, x37.1, x37.2)))))))
theorem Ng {H : A2} {K : Aw → A2 → Prop} (Ae : List (List UInt8 × S39)) (Ah : List (List UInt8 × (List UInt8))) (Ar : Option S33) (a1 : S39) (ka0 : Nat) (A7 : Nat) (A8 : Nat) (Aq : H.obj ka0 = some (.cells ([.mp A7, .mp A8, AT k33 Ar]))) (Aj : H.obj A7 = some (.map (mE k39g Ae))) (Al : H.obj A8 = some (.map (mE (fun (x : List UInt8) => .v (str x)) Ah))) (KW : ¬ A7 = A8) {r : Int × (List (List UInt8 × S39)) × (List (List UInt8 × (List UInt8)))} (h : F29 Ae Ah Ar a1 = some r) (hK : K (.ret (.v (.int .i64 r.1))) (BJ H [(A7, .map (mE k39g r.2.1)), (A8, .map (mE (fun (x : List UInt8) => .v (str x)) r.2.2))])) : Ac prog 29 [.p ka0 0, .ag (.v (str a1.Ad) :: .v (str a1.Am) :: (a1.A5.map fun x => .sl 1 (x.map fun x => [.v (str x)])))] H K := by
 refine Ag (N := 42) func29 (by kernel_rfl) rfl (by kernel_rfl) (by kernel_rfl) fun cb hcb hw hbd hnb => ?_; clear hbd hnb; subst hcb; unfold F29 at h; have Db : ka0 < H.next := Nat.lt_of_not_le fun q => by rw [hw _ q] at Aq; cases Aq
 have Bu : A7 < H.next := Nat.lt_of_not_le fun q => by rw [hw _ q] at Aj; cases Aj
 have Bv : A8 < H.next := Nat.lt_of_not_le fun q => by rw [hw _ q] at Al; cases Al
 have Cv : ¬ ka0 = A7 := fun q => by rw [q] at Aq; rw [Aq] at Aj; cases Aj
 have HK : ¬ A7 = ka0 := fun q => Cv q.symm; have Ec : ¬ ka0 = A8 := fun q => by rw [q] at Aq; rw [Aq] at Al; cases Al
 have Mg : ¬ A8 = ka0 := fun q => Ec q.symm; have UE : ¬ A8 = A7 := fun q => KW q.symm; obtain ⟨g2, h⟩ := Af.1 h; refine wG ?_; refine Q0 0 rfl fun cb hc3 => ?_; refine wG ?_; refine A3 fun cb hc5 => ?_; refine wG ?_; refine A3 fun cb hc7 => ?_; refine vG ?_; obtain ⟨x8, hx8, h⟩ := A4 h; cases (show some false = some x8 from hx8); refine BT Ae Ah Ar ka0 A7 A8 (eF Aq) (eF Aj) (eF Al) hx8 ?_; refine sG ?_; subst hc7; refine Ap eA rfl ?_; refine vO ?_; subst hc5; refine A3 fun cb hc9 => ?_; refine wG ?_; refine A3 fun cb hc11 => ?_; refine vF g2 ?_; obtain ⟨x12, hx12, h⟩ := A4 h; refine Nd a1.Ad hx12 ?_; refine sG ?_; refine A6 h eA ?_ ?_
 ·intro c41 h; simp (disch := omega) at c41; refine sG ?_; subst hc11; refine Ao eA rfl ?_; refine vO ?_; subst hc3; refine wO ?_; refine wG ?_; obtain rfl := sI h; refine vS ?_; refine As (r' := .v (.int .i64 2)) (BI.ioL [(A7, .map (mE k39g Ae)), (A8, .map (mE (fun (x : List UInt8) => .v (str x)) Ah))] (by simp only [AX, B6]; exact Au (Ext.AK (Ext.AK (Ext.refl hw) A7) A8)) (by intro p hp; simp only [List.mem_cons, List.not_mem_nil, or_false] at hp; (try rcases hp with hp | hp); all_goals (subst hp; refine ⟨by omega, by simp -implicitDefEqProofs (disch := omega) [go_sem, Aj, Al], by exact C5⟩))) rfl (.same (by exact nbA)) hK
 intro c41 h; simp (disch := omega) at c41; refine sF g2 ?_; obtain ⟨x15, hx15, h⟩ := A4 h; refine UC a1.Am hx15 ?_; refine sG ?_; refine A6 h eA ?_ ?_
 ·intro c40 h; simp (disch := omega) at c40; refine sG ?_; subst hc11; refine Ao eA rfl ?_; refine vO ?_; subst hc3; refine wO ?_; refine wG ?_; obtain rfl := sI h; refine vS ?_; refine As (r' := .v (.int .i64 2)) (BI.ioL [(A7, .map (mE k39g Ae)), (A8, .map (mE (fun (x : List UInt8) => .v (str x)) Ah))] (by simp only [AX, B6]; exact Au (Ext.AK (Ext.AK (Ext.refl hw) A7) A8)) (by intro p hp; simp only [List.mem_cons, List.not_mem_nil, or_false] at hp; (try rcases hp with hp | hp); all_goals (subst hp; refine ⟨by omega, by simp -implicitDefEqProofs (disch := omega) [go_sem, Aj, Al], by exact C5⟩))) rfl (.same (by exact nbA)) hK
 intro c40 h; simp (disch := omega) at c40; refine sF g2 ?_; obtain ⟨x18, hx18, h⟩ := A4 h; refine IJ a1.A5 hx18 ?_; refine sG ?_; subst hc11; refine Ab h eA rfl ?_ ?_
 ·intro c19 h; refine vO ?_; subst hc3; refine wO ?_; refine wG ?_; obtain rfl := sI h; refine vS ?_; refine As (r' := .v (.int .i64 2)) (BI.ioL [(A7, .map (mE k39g Ae)), (A8, .map (mE (fun (x : List UInt8) => .v (str x)) Ah))] (by simp only [AX, B6]; exact Au (Ext.AK (Ext.AK (Ext.refl hw) A7) A8)) (by intro p hp; simp only [List.mem_cons, List.not_mem_nil, or_false] at hp; (try rcases hp with hp | hp); all_goals (subst hp; refine ⟨by omega, by simp -implicitDefEqProofs (disch := omega) [go_sem, Aj, Al], by exact C5⟩))) rfl (.same (by exact nbA)) hK
 intro c19 h; simp (disch := omega) at c19; refine vO ?_; subst hc9; refine A3 fun cb hc22 => ?_; refine wG ?_; refine A3 fun cb hc24 => ?_; refine vG ?_; obtain ⟨x25, hx25, h⟩ := A4 h; refine aI Ae Ah Ar a1 H.next ka0 A7 A8 (H.next + 1) eA (eF Aq) (eF Aj) (eF Al) eA hx25 ?_; refine sG ?_; subst hc24; refine Ab h eA rfl ?_ ?_
 ·intro c26 h; refine vO ?_; subst hc3; refine wO ?_; refine wG ?_; obtain rfl := sI h; refine vS ?_; refine As (r' := .v (.int .i64 300)) (BI.ioL [(A7, .map (mE k39g Ae)), (A8, .map (mE (fun (x : List UInt8) => .v (str x)) Ah))] (by simp only [AX, B6]; exact Au (Ext.AK (Ext.AK (Ext.refl hw) A7) A8)) (by intro p hp; simp only [List.mem_cons, List.not_mem_nil, or_false] at hp; (try rcases hp with hp | hp); all_goals (subst hp; refine ⟨by omega, by simp -implicitDefEqProofs (disch := omega) [go_sem, Aj, Al], by exact C5⟩))) rfl (.same (by exact nbA)) hK
 intro c26 h; simp (disch := omega) at c26; refine vO ?_; subst hc22; refine A3 fun cb hc29 => ?_; refine wG ?_; refine wF (nd Aj Aq) ?_; refine Ab h eA rfl ?_ ?_
 ·intro c32 h; refine vO ?_; subst hc3; refine wO ?_; refine wG ?_; obtain rfl := sI h; refine vS ?_; refine As (r' := .v (.int .i64 3)) (BI.ioL [(A7, .map (mE k39g Ae)), (A8, .map (mE (fun (x : List UInt8) => .v (str x)) Ah))] (by simp only [AX, B6]; exact Au (Ext.AK (Ext.AK (Ext.refl hw) A7) A8)) (by intro p hp; simp only [List.mem_cons, List.not_mem_nil, or_false] at hp; (try rcases hp with hp | hp); all_goals (subst hp; refine ⟨by omega, by simp -implicitDefEqProofs (disch := omega) [go_sem, Aj, Al], by exact C5⟩))) rfl (.same (by exact nbA)) hK
 intro c32 h; simp (disch := omega) at c32; refine vO ?_; subst hc29; refine A3 fun cb hc35 => ?_; refine Ay [5] [0, 1, 2, 3, 4, 5, 6] (by kernel_rfl) (by kernel_rfl) (fun _ _ _ _ h => h) ?_; refine sF (nd Aq g2) ?_; obtain ⟨x36, hx36, h⟩ := A4 h; refine BN.mk _ (fun _ _ hK => Nb a1 hx36 hK) ?_; obtain ⟨x37, hx37, h⟩ := A4 h; refine Ac.wkL (args' := [.ag [.mp A7, .mp A8], .ag (.v (str x36.Ad) :: .v (str x36.Am) :: (x36.A5.map fun x => .sl 1 (x.map fun x => [.v (str x)])))]) (by repeat (first | exact WkL.nil | refine WkL.cons ?_ ?_ | exact Wk.refl _)) (UD Ae Ah x36 A7 A8 (eF Aj) (eF Al) (by assumption) hx37 ?_); refine sF (nd Aq g2) ?_; subst hc35; refine A3 fun cb hc38 => ?_; refine wG ?_; obtain rfl := sI h; refine vS ?_; refine As (r' := .v (.int .i64 0)) (BI.ioL [(A7, .map (mE k39g x37.1)), (A8, .map (mE (fun (x : List UInt8) => .v (str x)) x37.2))] (by simp only [AX, B6]; exact Au (Ext.AK (Ext.AK (Ext.refl hw) A7) A8)) (by intro p hp; simp only [List.mem_cons, List.not_mem_nil, or_false] at hp; (try rcases hp with hp | hp); all_goals (subst hp; refine ⟨by omega, by simp -implicitDefEqProofs (disch := omega) [go_sem], by exact C5⟩))) rfl (.same (by exact nbA)) hK
noncomputable def G9 (a0 : Int) (a1 : Int) (a2 : Int) : Option Bool :=
 if a1 ≤ a0 then (some (decide (a0 ≤ a2))) else (some false)
theorem FQ {H : A2} {K : Aw → A2 → Prop} (a0 : Int) (a1 : Int) (a2 : Int) {r : Bool} (h : G9 a0 a1 a2 = some r) (hK : K (.ret (.v (.bool r))) H) : Ac prog 119 [.v (.int .u8 a0), .v (.int .u8 a1), .v (.int .u8 a2)] H K := by
 refine Ag (N := 15) func119 (by kernel_rfl) rfl (by kernel_rfl) (by kernel_rfl) fun cb hcb hw hbd hnb => ?_; clear hbd hnb; subst hcb; unfold G9 at h; refine wG ?_; refine A3 fun cb hc2 => ?_; refine vG ?_; refine A6 h rfl ?_ ?_
 ·intro c3 h; refine sG ?_; subst hc2; obtain rfl := sI h; refine vS ?_; exact Av (.refl hw) hK
 intro c3 h; simp (disch := omega) at c3; refine sG ?_; subst hc2; obtain rfl := sI h; refine vS ?_; exact Av (.refl hw) hK
end Go.Idl
