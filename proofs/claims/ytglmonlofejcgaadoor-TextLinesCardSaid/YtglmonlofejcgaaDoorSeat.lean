/- DERIVED: THE SHELF's CONTRACTS AT THIS DUMP, IN PLAIN WORDS (tools/lay-plain.mjs out of 'TrydShelf.lean', which tools/lay-shelf.mjs wrote): THE SAME DECLARATIONS UNDER THE SAME NAMES: 'import', 'namespace', 'open', 'def', 'theorem' AND NOTHING ELSE: no command of the shelf's: FOR A HAND-IN. Each laying: the table of numbers ('.._ren') and one theorem, a field a fact of the dump's own or the kernel's comparison; each contract: ONE APPLICATION. The library's functions that write numbers, as oracles of the machine: strconv.Itoa, strconv.FormatInt; and what they ask of the package variables. What a law's listed variables give: the table of powers is what it is. -/
import Derived.Shelf.Strings.Builder1
import Derived.Shelf.Strings.Builder2
import Derived.Shelf.Strings.OnBuilder
import Derived.Shelf.Strings.BuilderF
import Derived.Shelf.Strings.BuilderK
import Derived.Shelf.Strings.Builder2Cap
import Derived.Shelf.Strconv.Itoa0
import Derived.Shelf.Strconv.Itoa1
import Derived.Shelf.LaysM
import Derived.Shelf.Strconv.Itoa2
import Derived.Shelf.Strconv.Itoa3
import Derived.Shelf.Strconv.Itoa4
import Derived.Test.YtglmonlofejcgaaDoorProg
import Derived.Test.YtglmonlofejcgaaDoorAmC
import Derived.Lib.AppendIntMem
import Derived.Test.YtglmonlofejcgaaDoorRows
import Derived.WalkKit
import Derived.ProofKit
import Derived.LaidMore
import Derived.OpenShut
import Derived.ShutString
import Derived.ChangeOld
import Derived.Below
import Derived.Stop.Joined
import Derived.MakeChecks
namespace Go.Proofs
open Go.Shelf
def Tryd.lays169_ren : Go.Shelf.Ren := ⟨fun | 169 => 25 | n => n, fun | 70 => 72 | 9 => 9 | 0 => 0 | 72 => 75 | 37 => 73 | 127 => 101 | 3 => 3 | 5 => 5 | n => n, fun | n => n⟩
theorem Tryd.lays169 : Go.Proofs.Lays.n169 Tryd.prog Tryd.lays169_ren := {
 mixed := by kernel_rfl
 f169 := Tryd.func25.trans (congrArg some (by kernel_rfl))
 t0 := Tryd.underlying0
 a0 := Tryd.isAgg0
 z0 := Tryd.sizeOf0
 v0 := Tryd.zeroValue0
 t3 := Tryd.underlying3
 a3 := Tryd.isAgg3
 z3 := Tryd.sizeOf3
 v3 := Tryd.zeroValue3
 t9 := Tryd.underlying9
 a9 := Tryd.isAgg9
 z9 := Tryd.sizeOf9
 v9 := Tryd.zeroValue9
 t37 := Tryd.underlying73
 a37 := Tryd.isAgg73
 z37 := Tryd.sizeOf73
 v37 := Tryd.zeroValue73
 t70 := Tryd.underlying72
 a70 := Tryd.isAgg72
 z70 := Tryd.sizeOf72
 v70 := Tryd.zeroValue72
 t72 := Tryd.underlying75
 a72 := Tryd.isAgg75
 z72 := Tryd.sizeOf75
 v72 := Tryd.zeroValue75
 t127 := Tryd.underlying101
 a127 := Tryd.isAgg101
 z127 := Tryd.sizeOf101
 v127 := Tryd.zeroValue101 }
theorem Tryd.Builder_Extra_169 : Builder.Extra Tryd.prog Tryd.lays169_ren := {
 sizeBuilder := by kernel_rfl
 liesBuilder := by kernel_rfl
 t5 := Tryd.underlying5
 a5 := Tryd.isAgg5
 z5 := Tryd.sizeOf5
 v5 := Tryd.zeroValue5
 infoByte := by kernel_rfl
 cellsByte := by kernel_rfl
 sizeByte := by kernel_rfl
 neB5 := by decide }
def Tryd.lays156_ren : Go.Shelf.Ren := ⟨fun | 156 => 32 | 165 => 55 | 166 => 56 | 169 => 25 | 240 => 85 | 241 => 86 | 276 => 104 | 277 => 105 | n => n, fun | 31 => 32 | 9 => 9 | 3 => 3 | 4 => 4 | 0 => 0 | 20 => 20 | 72 => 75 | 76 => 109 | 70 => 72 | 37 => 73 | 75 => 108 | 127 => 101 | 164 => 148 | 5 => 5 | 80 => 77 | n => n, fun | n => n⟩
theorem Tryd.lays156 : Go.Proofs.Lays.n156 Tryd.prog Tryd.lays156_ren := {
 mixed := by kernel_rfl
 f156 := Tryd.func32.trans (congrArg some (by kernel_rfl))
 f165 := Tryd.func55.trans (congrArg some (by kernel_rfl))
 f166 := Tryd.func56.trans (congrArg some (by kernel_rfl))
 f169 := Tryd.func25.trans (congrArg some (by kernel_rfl))
 f240 := Tryd.func85.trans (congrArg some (by kernel_rfl))
 f241 := Tryd.func86.trans (congrArg some (by kernel_rfl))
 f276 := Tryd.func104.trans (congrArg some (by kernel_rfl))
 f277 := Tryd.func105.trans (congrArg some (by kernel_rfl))
 t0 := Tryd.underlying0
 a0 := Tryd.isAgg0
 z0 := Tryd.sizeOf0
 v0 := Tryd.zeroValue0
 t3 := Tryd.underlying3
 a3 := Tryd.isAgg3
 z3 := Tryd.sizeOf3
 v3 := Tryd.zeroValue3
 t4 := Tryd.underlying4
 a4 := Tryd.isAgg4
 z4 := Tryd.sizeOf4
 v4 := Tryd.zeroValue4
 t9 := Tryd.underlying9
 a9 := Tryd.isAgg9
 z9 := Tryd.sizeOf9
 v9 := Tryd.zeroValue9
 t20 := Tryd.underlying20
 a20 := Tryd.isAgg20
 z20 := Tryd.sizeOf20
 v20 := Tryd.zeroValue20
 t31 := Tryd.underlying32
 a31 := Tryd.isAgg32
 z31 := Tryd.sizeOf32
 v31 := Tryd.zeroValue32
 t37 := Tryd.underlying73
 a37 := Tryd.isAgg73
 z37 := Tryd.sizeOf73
 v37 := Tryd.zeroValue73
 t70 := Tryd.underlying72
 a70 := Tryd.isAgg72
 z70 := Tryd.sizeOf72
 v70 := Tryd.zeroValue72
 t72 := Tryd.underlying75
 a72 := Tryd.isAgg75
 z72 := Tryd.sizeOf75
 v72 := Tryd.zeroValue75
 t75 := Tryd.underlying108
 a75 := Tryd.isAgg108
 z75 := Tryd.sizeOf108
 v75 := Tryd.zeroValue108
 t76 := Tryd.underlying109
 a76 := Tryd.isAgg109
 z76 := Tryd.sizeOf109
 v76 := Tryd.zeroValue109
 t127 := Tryd.underlying101
 a127 := Tryd.isAgg101
 z127 := Tryd.sizeOf101
 v127 := Tryd.zeroValue101
 t164 := Tryd.underlying148
 a164 := Tryd.isAgg148
 z164 := Tryd.sizeOf148
 v164 := Tryd.zeroValue148 }
theorem Tryd.Builder_Extra_156 : Builder.Extra Tryd.prog Tryd.lays156_ren := {
 sizeBuilder := by kernel_rfl
 liesBuilder := by kernel_rfl
 t5 := Tryd.underlying5
 a5 := Tryd.isAgg5
 z5 := Tryd.sizeOf5
 v5 := Tryd.zeroValue5
 infoByte := by kernel_rfl
 cellsByte := by kernel_rfl
 sizeByte := by kernel_rfl
 neB5 := by decide }
open Go.RowKit in
theorem Tryd.strings_Join_none (a : Option Addr) (c : Nat) (sep : ByteArray) (w : World) :
  Calls Tryd.prog 32 #[.slice a 0 c, .string sep] w fun e w' => e = .returned (.string ⟨#[]⟩) ∧ w' = w := Any.strings_Join_none Tryd.lays156 Tryd.Builder_Extra_156 a c sep w
open Go.RowKit in
theorem Tryd.strings_Join (bk o c : Nat) (xs : List ByteArray) (sep : ByteArray) (w : World) (hcells : ∀ (j : Nat) x, xs[j]? = some x → w.cell? ⟨bk, o + j, none⟩ = some (.string x)) (hbk : bk < w.heap.size) (hN : xs.length ≤ 140737488355328) (hcap : xs.length ≤ c) (hlen : (Lib.join (xs.map (·.data.toList)) sep.data.toList).length ≤ 140737488355328) :
  Calls Tryd.prog 32 #[.slice (some ⟨bk, o, none⟩) xs.length c, .string sep] w fun e w' => e = .returned (.string ⟨(Lib.join (xs.map (·.data.toList)) sep.data.toList).toArray⟩) ∧ Below w.heap.size w w' := Any.strings_Join Tryd.lays156 Tryd.Builder_Extra_156 bk o c xs sep w hcells hbk hN hcap hlen
open Go.RowKit in
theorem Tryd.Builder_String_any_k (B b : Nat) (l : List UInt8) (w : World) (h : Lib.IsBuilderF 75 5 B b (Lib.byteCells l) w) (hBw : B ≤ w.heap.size) :
  Calls Tryd.prog 25 #[.pointer (some ⟨b, 0, none⟩)] w fun e w' => e = .returned (.string ⟨l.toArray⟩) ∧ (Lib.IsBuilderF 75 5 B b (Lib.byteCells l) w' ∧ Below B w w' ∧ Lib.OthersKept 5 (some b) w w') := Any.Builder_String_any_k Tryd.lays169 Tryd.Builder_Extra_169 B b l w h hBw
def Tryd.laysM171_ren : Go.Shelf.Ren := ⟨fun | 171 => 29 | 243 => 53 | 246 => 84 | 283 => 100 | 284 => 101 | 285 => 102 | 286 => 103 | 129 => 111 | 317 => 110 | 318 => 112 | 319 => 113 | 320 => 114 | 337 => 117 | 338 => 118 | n => n, fun | 3 => 3 | 9 => 9 | 2 => 2 | 4 => 4 | 171 => 142 | 0 => 0 | 53 => 143 | 37 => 73 | 5 => 5 | 173 => 146 | 212 => 157 | 51 => 158 | 20 => 20 | 213 => 159 | 46 => 160 | 232 => 164 | 233 => 165 | n => n, fun | 17 => 0 | 18 => 2 | 19 => 3 | n => n⟩
theorem Tryd.laysM171 : Go.Proofs.LaysM.n171 Tryd.prog Tryd.laysM171_ren := {
 mixed := by kernel_rfl
 f129 := Tryd.func111.trans (congrArg some (by kernel_rfl))
 f171 := Tryd.func29.trans (congrArg some (by kernel_rfl))
 f243 := Tryd.func53.trans (congrArg some (by kernel_rfl))
 f246 := Tryd.func84.trans (congrArg some (by kernel_rfl))
 f283 := Tryd.func100.trans (congrArg some (by kernel_rfl))
 f284 := Tryd.func101.trans (congrArg some (by kernel_rfl))
 f285 := Tryd.func102.trans (congrArg some (by kernel_rfl))
 f286 := Tryd.func103.trans (congrArg some (by kernel_rfl))
 f317 := Tryd.func110.trans (congrArg some (by kernel_rfl))
 f318 := Tryd.func112.trans (congrArg some (by kernel_rfl))
 f319 := Tryd.func113.trans (congrArg some (by kernel_rfl))
 f320 := Tryd.func114.trans (congrArg some (by kernel_rfl))
 f337 := Tryd.func117.trans (congrArg some (by kernel_rfl))
 f338 := Tryd.func118.trans (congrArg some (by kernel_rfl))
 t0 := Tryd.underlying0
 a0 := Tryd.isAgg0
 z0 := Tryd.sizeOf0
 v0 := Tryd.zeroValue0
 t2 := Tryd.underlying2
 a2 := Tryd.isAgg2
 z2 := Tryd.sizeOf2
 v2 := Tryd.zeroValue2
 t3 := Tryd.underlying3
 a3 := Tryd.isAgg3
 z3 := Tryd.sizeOf3
 v3 := Tryd.zeroValue3
 t4 := Tryd.underlying4
 a4 := Tryd.isAgg4
 z4 := Tryd.sizeOf4
 v4 := Tryd.zeroValue4
 t5 := Tryd.underlying5
 a5 := Tryd.isAgg5
 z5 := Tryd.sizeOf5
 v5 := Tryd.zeroValue5
 t9 := Tryd.underlying9
 a9 := Tryd.isAgg9
 z9 := Tryd.sizeOf9
 v9 := Tryd.zeroValue9
 t20 := Tryd.underlying20
 a20 := Tryd.isAgg20
 z20 := Tryd.sizeOf20
 v20 := Tryd.zeroValue20
 t37 := Tryd.underlying73
 a37 := Tryd.isAgg73
 z37 := Tryd.sizeOf73
 v37 := Tryd.zeroValue73
 t46 := Tryd.underlying160
 a46 := Tryd.isAgg160
 z46 := Tryd.sizeOf160
 v46 := Tryd.zeroValue160
 t51 := Tryd.underlying158
 a51 := Tryd.isAgg158
 z51 := Tryd.sizeOf158
 v51 := Tryd.zeroValue158
 t53 := Tryd.underlying143
 a53 := Tryd.isAgg143
 z53 := Tryd.sizeOf143
 v53 := Tryd.zeroValue143
 t171 := Tryd.underlying142
 a171 := Tryd.isAgg142
 z171 := Tryd.sizeOf142
 v171 := Tryd.zeroValue142
 t173 := Tryd.underlying146
 a173 := Tryd.isAgg146
 z173 := Tryd.sizeOf146
 v173 := Tryd.zeroValue146
 t212 := Tryd.underlying157
 a212 := Tryd.isAgg157
 z212 := Tryd.sizeOf157
 v212 := Tryd.zeroValue157
 t213 := Tryd.underlying159
 a213 := Tryd.isAgg159
 z213 := Tryd.sizeOf159
 t232 := Tryd.underlying164
 a232 := Tryd.isAgg164
 z232 := Tryd.sizeOf164
 v232 := Tryd.zeroValue164
 t233 := Tryd.underlying165
 a233 := Tryd.isAgg165
 z233 := Tryd.sizeOf165
 v233 := Tryd.zeroValue165
 g17 := by kernel_rfl
 g18 := by kernel_rfl
 g19 := by kernel_rfl
 i0 := by kernel_rfl
 i2 := by kernel_rfl
 i3 := by kernel_rfl
 i4 := by kernel_rfl
 i5 := by kernel_rfl
 i9 := by kernel_rfl
 i20 := by kernel_rfl
 i37 := by kernel_rfl
 i46 := by kernel_rfl
 i51 := by kernel_rfl
 i53 := by kernel_rfl
 i171 := by kernel_rfl
 i173 := by kernel_rfl
 i212 := by kernel_rfl
 i232 := by kernel_rfl
 i233 := by kernel_rfl
 m17 := by kernel_rfl
 m18 := by kernel_rfl
 m19 := by kernel_rfl }
open Go.RowKit Go.Sort Go.Lib in
theorem Tryd.strconv_Itoa (n : Int) (h0 : -9223372036854775808 ≤ n) (h1 : n ≤ 9223372036854775807) (w : World) (htab : Lib.TabIs Tryd.prog w "internal/strconv.uint64pow10" .u64 Lib.pow10Tab) :
  Calls Tryd.prog 29 #[.int .i64 n] w fun e w' => e = .returned (.string ⟨(Lib.itoa n).toArray⟩) ∧ ∃ k os, w' = grow (w.drewN k) os := Any.strconv_Itoa Tryd.laysM171 n h0 h1 w htab
def Tryd.laysM173_ren : Go.Shelf.Ren := ⟨fun | 173 => 54 | 246 => 84 | 283 => 100 | 284 => 101 | 285 => 102 | 286 => 103 | 129 => 111 | 317 => 110 | 318 => 112 | 319 => 113 | 320 => 114 | 337 => 117 | 338 => 118 | n => n, fun | 2 => 2 | 3 => 3 | 9 => 9 | 4 => 4 | 171 => 142 | 0 => 0 | 53 => 143 | 37 => 73 | 5 => 5 | 173 => 146 | 212 => 157 | 51 => 158 | 20 => 20 | 213 => 159 | 46 => 160 | 232 => 164 | 233 => 165 | n => n, fun | 17 => 0 | 18 => 2 | 19 => 3 | n => n⟩
theorem Tryd.laysM173 : Go.Proofs.LaysM.n173 Tryd.prog Tryd.laysM173_ren := {
 mixed := by kernel_rfl
 f129 := Tryd.func111.trans (congrArg some (by kernel_rfl))
 f173 := Tryd.func54.trans (congrArg some (by kernel_rfl))
 f246 := Tryd.func84.trans (congrArg some (by kernel_rfl))
 f283 := Tryd.func100.trans (congrArg some (by kernel_rfl))
 f284 := Tryd.func101.trans (congrArg some (by kernel_rfl))
 f285 := Tryd.func102.trans (congrArg some (by kernel_rfl))
 f286 := Tryd.func103.trans (congrArg some (by kernel_rfl))
 f317 := Tryd.func110.trans (congrArg some (by kernel_rfl))
 f318 := Tryd.func112.trans (congrArg some (by kernel_rfl))
 f319 := Tryd.func113.trans (congrArg some (by kernel_rfl))
 f320 := Tryd.func114.trans (congrArg some (by kernel_rfl))
 f337 := Tryd.func117.trans (congrArg some (by kernel_rfl))
 f338 := Tryd.func118.trans (congrArg some (by kernel_rfl))
 t0 := Tryd.underlying0
 a0 := Tryd.isAgg0
 z0 := Tryd.sizeOf0
 v0 := Tryd.zeroValue0
 t2 := Tryd.underlying2
 a2 := Tryd.isAgg2
 z2 := Tryd.sizeOf2
 v2 := Tryd.zeroValue2
 t3 := Tryd.underlying3
 a3 := Tryd.isAgg3
 z3 := Tryd.sizeOf3
 v3 := Tryd.zeroValue3
 t4 := Tryd.underlying4
 a4 := Tryd.isAgg4
 z4 := Tryd.sizeOf4
 v4 := Tryd.zeroValue4
 t5 := Tryd.underlying5
 a5 := Tryd.isAgg5
 z5 := Tryd.sizeOf5
 v5 := Tryd.zeroValue5
 t9 := Tryd.underlying9
 a9 := Tryd.isAgg9
 z9 := Tryd.sizeOf9
 v9 := Tryd.zeroValue9
 t20 := Tryd.underlying20
 a20 := Tryd.isAgg20
 z20 := Tryd.sizeOf20
 v20 := Tryd.zeroValue20
 t37 := Tryd.underlying73
 a37 := Tryd.isAgg73
 z37 := Tryd.sizeOf73
 v37 := Tryd.zeroValue73
 t46 := Tryd.underlying160
 a46 := Tryd.isAgg160
 z46 := Tryd.sizeOf160
 v46 := Tryd.zeroValue160
 t51 := Tryd.underlying158
 a51 := Tryd.isAgg158
 z51 := Tryd.sizeOf158
 v51 := Tryd.zeroValue158
 t53 := Tryd.underlying143
 a53 := Tryd.isAgg143
 z53 := Tryd.sizeOf143
 v53 := Tryd.zeroValue143
 t171 := Tryd.underlying142
 a171 := Tryd.isAgg142
 z171 := Tryd.sizeOf142
 v171 := Tryd.zeroValue142
 t173 := Tryd.underlying146
 a173 := Tryd.isAgg146
 z173 := Tryd.sizeOf146
 v173 := Tryd.zeroValue146
 t212 := Tryd.underlying157
 a212 := Tryd.isAgg157
 z212 := Tryd.sizeOf157
 v212 := Tryd.zeroValue157
 t213 := Tryd.underlying159
 a213 := Tryd.isAgg159
 z213 := Tryd.sizeOf159
 t232 := Tryd.underlying164
 a232 := Tryd.isAgg164
 z232 := Tryd.sizeOf164
 v232 := Tryd.zeroValue164
 t233 := Tryd.underlying165
 a233 := Tryd.isAgg165
 z233 := Tryd.sizeOf165
 v233 := Tryd.zeroValue165
 g17 := by kernel_rfl
 g18 := by kernel_rfl
 g19 := by kernel_rfl
 i0 := by kernel_rfl
 i2 := by kernel_rfl
 i3 := by kernel_rfl
 i4 := by kernel_rfl
 i5 := by kernel_rfl
 i9 := by kernel_rfl
 i20 := by kernel_rfl
 i37 := by kernel_rfl
 i46 := by kernel_rfl
 i51 := by kernel_rfl
 i53 := by kernel_rfl
 i171 := by kernel_rfl
 i173 := by kernel_rfl
 i212 := by kernel_rfl
 i232 := by kernel_rfl
 i233 := by kernel_rfl
 m17 := by kernel_rfl
 m18 := by kernel_rfl
 m19 := by kernel_rfl }
open Go.RowKit Go.Sort Go.Lib in
theorem Tryd.strconv_FormatInt_10 (n : Int) (h0 : -9223372036854775808 ≤ n) (h1 : n ≤ 9223372036854775807) (w : World) (htab : Lib.TabIs Tryd.prog w "internal/strconv.uint64pow10" .u64 Lib.pow10Tab) :
  Calls Tryd.prog 54 #[.int .i64 n, .int .i64 10] w fun e w' => e = .returned (.string ⟨(Lib.itoa n).toArray⟩) ∧ ∃ k os, w' = grow (w.drewN k) os := Any.strconv_FormatInt_10 Tryd.laysM173 n h0 h1 w htab
end Go.Proofs
namespace Go.Proofs.YtglmonlofejcgaaDoor.Am
open Go.RowKit
structure TabOk (w : World) : Prop where
 size : 3 ≤ w.heap.size
 tab : Lib.TabIs Tryd.prog w "internal/strconv.uint64pow10" .u64 Lib.pow10Tab
theorem cell0 {w w0 : World} (h : ∀ b, b < 3 → w.heap[b]? = w0.heap[b]?) (b i : Nat) (hb : b < 3) : w.cell? ⟨b, i, none⟩ = w0.cell? ⟨b, i, none⟩ := by
 simp only [World.cell?, h b hb]
theorem TabOk.here {w w0 : World} (k : TabOk w0) (h : ∀ b, b < 3 → w.heap[b]? = w0.heap[b]?) : Lib.TabIs Tryd.prog w "internal/strconv.uint64pow10" .u64 Lib.pow10Tab := by
 have e := k.tab
 unfold Lib.TabIs World.var? at *
 rw [show Tryd.prog.globalNamed "internal/strconv.uint64pow10" = some 0 by kernel_rfl, Option.bind_some] at *
 rw [h _ (by decide)]
 exact e
theorem decF_eq : ∀ f u acc, u < 10 ^ f → 0 < f → decF f u acc = Lib.decDigits u ++ acc
 | 0, _, _, _, h => by omega
 | f + 1, u, acc, h, _ => by
  rw [decF, Lib.decDigits]
  by_cases hu : u < 10
  ·rw [dif_pos hu, show Nat.blt u 10 = true by simpa [Nat.blt_eq] using hu]
   rfl
  ·rw [dif_neg hu, show Nat.blt u 10 = false from Bool.eq_false_iff.2 fun h => hu (by simpa [Nat.blt_eq] using h)]
   simp only [cond_false]
   have h1 : u / 10 < 10 ^ f := by rw [Nat.pow_succ] at h; omega
   have hf : 0 < f := by
    rcases Nat.eq_zero_or_pos f with rfl | hf
    ·simp at h1; omega
    ·exact hf
   rw [decF_eq f (u / 10) _ h1 hf]
   simp
abbrev itoaK (n : Int) : List UInt8 := decT n
theorem itoaK_eq (n : Int) (h0 : -9223372036854775808 ≤ n) (h1 : n ≤ 9223372036854775807) : itoaK n = Lib.itoa n := by
 unfold itoaK decT Lib.itoa
 cases n with
 | ofNat u =>
  have hu : u < 10 ^ 20 := by simp only [Int.ofNat_eq_natCast] at h1; omega
  simp only [decF_eq 20 u [] hu (by decide), List.append_nil]
  rw [if_neg (by simp only [Int.ofNat_eq_natCast]; omega)]
  rfl
 | negSucc u =>
  have hu : u + 1 < 10 ^ 20 := by omega
  simp only [decF_eq 20 (u + 1) [] hu (by decide), List.append_nil]
  rw [if_pos (by omega)]
  rfl
noncomputable def inI (n : Int) : Bool := Int.ble' (-9223372036854775808) n && Int.ble' n 9223372036854775807
theorem inI_iff {n : Int} (h : inI n = true) : -9223372036854775808 ≤ n ∧ n ≤ 9223372036854775807 := by
 unfold inI at h
 simpa [Int.ble'_eq_true] using h
noncomputable def itoaG (args : List A) : Option V := match args with
 | [.s (.int .i64 n)] => bif inI n then some (.a (.s (.str (itoaK n)))) else none
 | _ => none
noncomputable def fmtG (args : List A) : Option V := match args with
 | [.s (.int .i64 n), .s (.int .i64 b)] => bif inI n && b == 10 then some (.a (.s (.str (itoaK n)))) else none
 | _ => none
abbrev base0 (w0 : World) {K : Know} {rho : Nat → Int} {sig : Nat → List UInt8} (ok : KnowOk K rho sig) : Base := Base.known K ok 3 w0
section
variable {w0 : World} {K : Know} {rho : Nat → Int} {sig : Nat → List UInt8} (ok : KnowOk K rho sig)
noncomputable def itoaO : Oracle := pureO 29 itoaG
noncomputable def fmtO : Oracle := pureO 54 fmtG
noncomputable def numO : Oracle := fun f a h fl => orR (itoaO f a h fl) (fmtO f a h fl)
theorem all2_one [Base] {r : Ren} {x : A} {vs : List Value} (h : All2 (VA r) [x] vs) : ∃ v, vs = [v] ∧ VA r x v := by
 match vs, h with
 | [v], h => exact ⟨v, rfl, h.1⟩
theorem sound_itoa (k : TabOk w0) : @Sound (base0 w0 ok) Tryd.prog itoaO := by
 letI : Base := base0 w0 ok
 refine sound_pure ⟨_, Tryd.func29, by kernel_rfl, by kernel_rfl⟩ fun args v hg r vs ha w hw => ?_
 unfold itoaG at hg
 split at hg
 ·rename_i n
  obtain ⟨u, rfl, hu⟩ := all2_one ha
  cases hu
  cases hi : inI n with
  | false => rw [hi] at hg; cases hg
  | true =>
   rw [hi] at hg
   cases hg
   obtain ⟨h0, h1⟩ := inI_iff hi
   refine (Tryd.strconv_Itoa n h0 h1 w (k.here hw)).mono fun e w' ⟨e1, n', os, e2⟩ => ⟨_, e1, ?_, ?_⟩
   ·show _ = _
    rw [itoaK_eq n h0 h1]
   ·rw [e2]; exact Lib.below_grow _ _ (Nat.le_refl _) _ _
 ·cases hg
theorem all2_two [Base] {r : Ren} {x y : A} {vs : List Value} (h : All2 (VA r) [x, y] vs) : ∃ v u, vs = [v, u] ∧ VA r x v ∧ VA r y u := by
 match vs, h with
 | [v, u], h => exact ⟨v, u, rfl, h.1, h.2.1⟩
theorem sound_fmt (k : TabOk w0) : @Sound (base0 w0 ok) Tryd.prog fmtO := by
 letI : Base := base0 w0 ok
 refine sound_pure ⟨_, Tryd.func54, by kernel_rfl, by kernel_rfl⟩ fun args v hg r vs ha w hw => ?_
 unfold fmtG at hg
 split at hg
 ·rename_i n b
  obtain ⟨u, u', rfl, hu, hu'⟩ := all2_two ha
  cases hu
  cases hu'
  cases hi : (inI n && b == 10) with
  | false => rw [hi] at hg; cases hg
  | true =>
   rw [hi] at hg
   cases hg
   simp only [Bool.and_eq_true, beq_iff_eq] at hi
   obtain ⟨hi, rfl⟩ := hi
   obtain ⟨h0, h1⟩ := inI_iff hi
   refine (Tryd.strconv_FormatInt_10 n h0 h1 w (k.here hw)).mono fun e w' ⟨e1, n', os, e2⟩ => ⟨_, e1, ?_, ?_⟩
   ·show _ = _
    rw [itoaK_eq n h0 h1]
   ·rw [e2]; exact Lib.below_grow _ _ (Nat.le_refl _) _ _
 ·cases hg
theorem sound_num (k : TabOk w0) : @Sound (base0 w0 ok) Tryd.prog numO := @sound_or (base0 w0 ok) _ _ _ (sound_itoa ok k) (sound_fmt ok k)
theorem fnOk : FnOk Tryd.prog (fnOf Tryd.prog) := by
 have hall : (Tryd.prog.funcs.toList.all fun F => !(F.name == "runtime.NumGoroutine")) = true := by kernel_rfl
 intro f F h
 refine ⟨h, ?_⟩
 have hm : F ∈ Tryd.prog.funcs.toList := by
  have h : Tryd.prog.funcs[f]? = some F := h
  rw [← Array.getElem?_toList] at h
  exact List.mem_of_getElem? h
 simpa using List.all_eq_true.1 hall F hm
theorem mixed : Tryd.prog.follows .mixedOrders = true := by kernel_rfl
theorem sound_runs {lib : Oracle} (hl : @Sound (base0 w0 ok) Tryd.prog lib) (n d : Nat) : @Sound (base0 w0 ok) Tryd.prog (@runs K (tyOf Tryd.prog) (fnOf Tryd.prog) lib n d) :=
 @runs_ok (base0 w0 ok) _ _ (@tyOf_ok (base0 w0 ok) Tryd.prog) _ fnOk _ hl mixed n d
end
end Go.Proofs.YtglmonlofejcgaaDoor.Am
namespace Go.Proofs.YtglmonlofejcgaaDoor.Am
open Go.ChangeShapes Go.WideShapes Go.ChangeAt Go.RowKit
theorem own : ownKnob Tryd.prog.godebug = none := by kernel_rfl
theorem laidOut : laidOutB Tryd.prog = true := by kernel_rfl
def Reads (P : Program) (w : World) (n : String) (d : DataW Unit) : Prop :=
 ∃ g t cs fuel p, P.globalNamed n = some g ∧ (P.globals[g]?).map (·.type) = some t ∧ w.var? P n = some cs ∧ DataW.trod (fun _ => ()) P w 0 (fun _ => true) false fuel t cs.toList = some (d, p)
theorem reads_of {P : Program} {w : World} : ∀ {l : List (String × DataW Unit)} {ps : List MemPlace}, DataW.LaidVars P w l ps → ∀ n d, (n, d) ∈ l → Reads P w n d
 | [], _, _, _, _, hm => by cases hm
 | (_, _) :: r, ps, h, n, d, hm => by
  obtain ⟨g, t, cs, fuel, p, q, h1, h2, h3, h4, h5, _⟩ := h
  rcases List.mem_cons.1 hm with e | e
  ·cases e
   exact ⟨g, t, cs, fuel, p, h1, h2, h3, h4⟩
  ·exact reads_of h5 n d e
theorem met_reads {P : Program} {w : World} {l : List (String × DataW Unit)} (hh : (l.all fun x => x.2.handleName?.isNone) = true) (h : laidMetH P l w) {n : String} {d : DataW Unit} (hm : (n, d) ∈ l) : Reads P w n d := by
 rw [MakeChecks.laidMetH_plain _ _ _ hh] at h
 obtain ⟨_, hv, _⟩ := h
 exact reads_of hv n d hm
theorem var_size {P : Program} {w : World} {n : String} {g : Nat} {cs : Array Value} (hg : P.globalNamed n = some g) (h : w.var? P n = some cs) : g < w.heap.size := by
 simp only [World.var?, hg, Option.bind_some] at h
 split at h
 ·rename_i he
  exact (Array.getElem?_eq_some_iff.1 he).1
 ·cases h
theorem gPow : Tryd.prog.globalNamed "internal/strconv.uint64pow10" = some 0 := by kernel_rfl
theorem gLast : Tryd.prog.globalNamed "math/bits.deBruijn64tab" = some 3 := by kernel_rfl
theorem tabOk {w : World} {l : List (String × DataW Unit)} (hh : (l.all fun x => x.2.handleName?.isNone) = true)
  (h2 : ("internal/strconv.uint64pow10", Rows.laid_internal_strconv_uint64pow10) ∈ l) (h3 : ("math/bits.deBruijn64tab", Rows.laid_math_bits_deBruijn64tab) ∈ l) (h : laidMetH Tryd.prog l w) : TabOk w := by
 obtain ⟨g', t', cs, fuel, p, k1, k2, k3, k4⟩ := met_reads hh h h3
 have := var_size gLast k3
 refine ⟨by omega, ?_⟩
 obtain ⟨g', t', cs, fuel, p, k1, k2, k3, k4⟩ := met_reads hh h h2
 obtain rfl := Option.some.inj (gPow.symm.trans k1)
 obtain rfl := Option.some.inj ((show (Tryd.prog.globals[0]?).map (·.type) = some 157 by kernel_rfl).symm.trans k2)
 have e : (Rows.laid_internal_strconv_uint64pow10 : DataW Unit) = Lib.tabData .u64 Lib.pow10Tab := by kernel_rfl
 rw [e] at k4
 have hc := Lib.cells_of_tab Tryd.underlying157 Tryd.underlying143 (by kernel_rfl) (by kernel_rfl) k4
 unfold Lib.TabIs
 rw [k3, ← hc]
end Go.Proofs.YtglmonlofejcgaaDoor.Am
