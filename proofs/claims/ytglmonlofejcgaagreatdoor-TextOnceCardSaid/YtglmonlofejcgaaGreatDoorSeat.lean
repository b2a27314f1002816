/- DERIVED. -/
import Derived.Shelf.Strings.OnBuilder
import Derived.Shelf.Strings.BuilderK
import Derived.Shelf.Strings.Builder2Cap
import Derived.Shelf.Strconv.Itoa4
import Derived.Test.YtglmonlofejcgaaGreatDoorAmC
import Derived.Lib.AppendIntMem
import Derived.Test.YtglmonlofejcgaaGreatDoorRows
import Derived.ProofKit
import Derived.LaidMore
import Derived.OpenShut
import Derived.ShutString
import Derived.Stop.Joined
noncomputable section
open Int renaming ofNat_eq_natCast → apu
open Option renaming bind_some → apv
open List renaming append_nil → apw
namespace Go.Proofs
open Go.Shelf
def Tryz.lays169_ren : Go.Shelf.Ren := ⟨fun | 169 => 23 | n => n, fun | 70 => 63 | 9 => 9 | 0 => 0 | 72 => 66 | 37 => 64 | 127 => 91 | 3 => 3 | 5 => 5 | n => n, fun | n => n⟩
theorem Tryz.lays169 : Go.Proofs.Lays.n169 Tryz.prog Tryz.lays169_ren := {
 mixed := by kernel_rfl
 f169 := Tryz.func23.trans (congrArg some (by kernel_rfl))
 t0 := Tryz.underlying0
 a0 := Tryz.isAgg0
 z0 := Tryz.sizeOf0
 v0 := Tryz.zeroValue0
 t3 := Tryz.underlying3
 a3 := Tryz.isAgg3
 z3 := Tryz.sizeOf3
 v3 := Tryz.zeroValue3
 t9 := Tryz.underlying9
 a9 := Tryz.isAgg9
 z9 := Tryz.sizeOf9
 v9 := Tryz.zeroValue9
 t37 := Tryz.underlying64
 a37 := Tryz.isAgg64
 z37 := Tryz.sizeOf64
 v37 := Tryz.zeroValue64
 t70 := Tryz.underlying63
 a70 := Tryz.isAgg63
 z70 := Tryz.sizeOf63
 v70 := Tryz.zeroValue63
 t72 := Tryz.underlying66
 a72 := Tryz.isAgg66
 z72 := Tryz.sizeOf66
 v72 := Tryz.zeroValue66
 t127 := Tryz.underlying91
 a127 := Tryz.isAgg91
 z127 := Tryz.sizeOf91
 v127 := Tryz.zeroValue91 }
theorem Tryz.Builder_Extra_169 : Builder.Extra Tryz.prog Tryz.lays169_ren := {
 sizeBuilder := by kernel_rfl
 liesBuilder := by kernel_rfl
 t5 := Tryz.underlying5
 a5 := Tryz.isAgg5
 z5 := Tryz.sizeOf5
 v5 := Tryz.zeroValue5
 infoByte := by kernel_rfl
 cellsByte := by kernel_rfl
 sizeByte := by kernel_rfl
 neB5 := by decide }
def Tryz.lays156_ren : Go.Shelf.Ren := ⟨fun | 156 => 74 | 165 => 104 | 166 => 63 | 169 => 23 | 240 => 99 | 241 => 126 | 276 => 121 | 277 => 136 | n => n, fun | 31 => 94 | 9 => 9 | 3 => 3 | 4 => 4 | 0 => 0 | 20 => 20 | 72 => 66 | 76 => 116 | 70 => 63 | 37 => 64 | 75 => 115 | 127 => 91 | 164 => 160 | 5 => 5 | 80 => 68 | n => n, fun | n => n⟩
theorem Tryz.lays156 : Go.Proofs.Lays.n156 Tryz.prog Tryz.lays156_ren := {
 mixed := by kernel_rfl
 f156 := Tryz.func74.trans (congrArg some (by kernel_rfl))
 f165 := Tryz.func104.trans (congrArg some (by kernel_rfl))
 f166 := Tryz.func63.trans (congrArg some (by kernel_rfl))
 f169 := Tryz.func23.trans (congrArg some (by kernel_rfl))
 f240 := Tryz.func99.trans (congrArg some (by kernel_rfl))
 f241 := Tryz.func126.trans (congrArg some (by kernel_rfl))
 f276 := Tryz.func121.trans (congrArg some (by kernel_rfl))
 f277 := Tryz.func136.trans (congrArg some (by kernel_rfl))
 t0 := Tryz.underlying0
 a0 := Tryz.isAgg0
 z0 := Tryz.sizeOf0
 v0 := Tryz.zeroValue0
 t3 := Tryz.underlying3
 a3 := Tryz.isAgg3
 z3 := Tryz.sizeOf3
 v3 := Tryz.zeroValue3
 t4 := Tryz.underlying4
 a4 := Tryz.isAgg4
 z4 := Tryz.sizeOf4
 v4 := Tryz.zeroValue4
 t9 := Tryz.underlying9
 a9 := Tryz.isAgg9
 z9 := Tryz.sizeOf9
 v9 := Tryz.zeroValue9
 t20 := Tryz.underlying20
 a20 := Tryz.isAgg20
 z20 := Tryz.sizeOf20
 v20 := Tryz.zeroValue20
 t31 := Tryz.underlying94
 a31 := Tryz.isAgg94
 z31 := Tryz.sizeOf94
 v31 := Tryz.zeroValue94
 t37 := Tryz.underlying64
 a37 := Tryz.isAgg64
 z37 := Tryz.sizeOf64
 v37 := Tryz.zeroValue64
 t70 := Tryz.underlying63
 a70 := Tryz.isAgg63
 z70 := Tryz.sizeOf63
 v70 := Tryz.zeroValue63
 t72 := Tryz.underlying66
 a72 := Tryz.isAgg66
 z72 := Tryz.sizeOf66
 v72 := Tryz.zeroValue66
 t75 := Tryz.underlying115
 a75 := Tryz.isAgg115
 z75 := Tryz.sizeOf115
 v75 := Tryz.zeroValue115
 t76 := Tryz.underlying116
 a76 := Tryz.isAgg116
 z76 := Tryz.sizeOf116
 v76 := Tryz.zeroValue116
 t127 := Tryz.underlying91
 a127 := Tryz.isAgg91
 z127 := Tryz.sizeOf91
 v127 := Tryz.zeroValue91
 t164 := Tryz.underlying160
 a164 := Tryz.isAgg160
 z164 := Tryz.sizeOf160
 v164 := Tryz.zeroValue160 }
theorem Tryz.Builder_Extra_156 : Builder.Extra Tryz.prog Tryz.lays156_ren := {
 sizeBuilder := by kernel_rfl
 liesBuilder := by kernel_rfl
 t5 := Tryz.underlying5
 a5 := Tryz.isAgg5
 z5 := Tryz.sizeOf5
 v5 := Tryz.zeroValue5
 infoByte := by kernel_rfl
 cellsByte := by kernel_rfl
 sizeByte := by kernel_rfl
 neB5 := by decide }
open Go.RowKit in
theorem Tryz.strings_Join_none (a : Option Addr) (c : Nat) (sep : ByteArray) (w : World) :
  Calls Tryz.prog 74 #[.slice a 0 c, .string sep] w fun e w' => e = .returned (.string ⟨#[]⟩) /\ w' = w := Any.strings_Join_none Tryz.lays156 Tryz.Builder_Extra_156 a c sep w
open Go.RowKit in
theorem Tryz.strings_Join (bk o c : Nat) (xs : List ByteArray) (sep : ByteArray) (w : World) (hcells : ∀ (j : Nat) x, xs[j]? = some x -> w.cell? ⟨bk, o + j, none⟩ = some (.string x)) (hbk : bk < w.heap.size) (hN : xs.length <= 140737488355328) (hcap : xs.length <= c) (hlen : (Lib.join (xs.map (·.data.toList)) sep.data.toList).length <= 140737488355328) :
  Calls Tryz.prog 74 #[.slice (some ⟨bk, o, none⟩) xs.length c, .string sep] w fun e w' => e = .returned (.string ⟨(Lib.join (xs.map (·.data.toList)) sep.data.toList).toArray⟩) /\ Below w.heap.size w w' := Any.strings_Join Tryz.lays156 Tryz.Builder_Extra_156 bk o c xs sep w hcells hbk hN hcap hlen
open Go.RowKit in
theorem Tryz.Builder_String_any_k (B b : Nat) (l : List UInt8) (w : World) (h : Lib.IsBuilderF 66 5 B b (Lib.byteCells l) w) (hBw : B <= w.heap.size) :
  Calls Tryz.prog 23 #[.pointer (some ⟨b, 0, none⟩)] w fun e w' => e = .returned (.string ⟨l.toArray⟩) /\ (Lib.IsBuilderF 66 5 B b (Lib.byteCells l) w' /\ Below B w w' /\ Lib.OthersKept 5 (some b) w w') := Any.Builder_String_any_k Tryz.lays169 Tryz.Builder_Extra_169 B b l w h hBw
def Tryz.Vb : Go.Shelf.Ren := ⟨fun | 171 => 36 | 243 => 65 | 246 => 100 | 283 => 122 | 284 => 123 | 285 => 124 | 286 => 125 | 129 => 132 | 317 => 131 | 318 => 133 | 319 => 134 | 320 => 135 | 337 => 138 | 338 => 139 | n => n, fun | 3 => 3 | 9 => 9 | 2 => 2 | 4 => 4 | 171 => 162 | 0 => 0 | 53 => 163 | 37 => 64 | 5 => 5 | 173 => 166 | 212 => 174 | 51 => 175 | 20 => 20 | 213 => 176 | 46 => 177 | 232 => 183 | 233 => 184 | n => n, fun | 17 => 0 | 18 => 2 | 19 => 3 | n => n⟩
theorem Tryz.laysM171 : Go.Proofs.LaysM.n171 Tryz.prog Tryz.Vb := {
 mixed := by kernel_rfl
 f129 := Tryz.func132.trans (congrArg some (by kernel_rfl))
 f171 := Tryz.func36.trans (congrArg some (by kernel_rfl))
 f243 := Tryz.func65.trans (congrArg some (by kernel_rfl))
 f246 := Tryz.func100.trans (congrArg some (by kernel_rfl))
 f283 := Tryz.func122.trans (congrArg some (by kernel_rfl))
 f284 := Tryz.func123.trans (congrArg some (by kernel_rfl))
 f285 := Tryz.func124.trans (congrArg some (by kernel_rfl))
 f286 := Tryz.func125.trans (congrArg some (by kernel_rfl))
 f317 := Tryz.func131.trans (congrArg some (by kernel_rfl))
 f318 := Tryz.func133.trans (congrArg some (by kernel_rfl))
 f319 := Tryz.func134.trans (congrArg some (by kernel_rfl))
 f320 := Tryz.func135.trans (congrArg some (by kernel_rfl))
 f337 := Tryz.func138.trans (congrArg some (by kernel_rfl))
 f338 := Tryz.func139.trans (congrArg some (by kernel_rfl))
 t0 := Tryz.underlying0
 a0 := Tryz.isAgg0
 z0 := Tryz.sizeOf0
 v0 := Tryz.zeroValue0
 t2 := Tryz.underlying2
 a2 := Tryz.isAgg2
 z2 := Tryz.sizeOf2
 v2 := Tryz.zeroValue2
 t3 := Tryz.underlying3
 a3 := Tryz.isAgg3
 z3 := Tryz.sizeOf3
 v3 := Tryz.zeroValue3
 t4 := Tryz.underlying4
 a4 := Tryz.isAgg4
 z4 := Tryz.sizeOf4
 v4 := Tryz.zeroValue4
 t5 := Tryz.underlying5
 a5 := Tryz.isAgg5
 z5 := Tryz.sizeOf5
 v5 := Tryz.zeroValue5
 t9 := Tryz.underlying9
 a9 := Tryz.isAgg9
 z9 := Tryz.sizeOf9
 v9 := Tryz.zeroValue9
 t20 := Tryz.underlying20
 a20 := Tryz.isAgg20
 z20 := Tryz.sizeOf20
 v20 := Tryz.zeroValue20
 t37 := Tryz.underlying64
 a37 := Tryz.isAgg64
 z37 := Tryz.sizeOf64
 v37 := Tryz.zeroValue64
 t46 := Tryz.underlying177
 a46 := Tryz.isAgg177
 z46 := Tryz.sizeOf177
 v46 := Tryz.zeroValue177
 t51 := Tryz.underlying175
 a51 := Tryz.isAgg175
 z51 := Tryz.sizeOf175
 v51 := Tryz.zeroValue175
 t53 := Tryz.underlying163
 a53 := Tryz.isAgg163
 z53 := Tryz.sizeOf163
 v53 := Tryz.zeroValue163
 t171 := Tryz.underlying162
 a171 := Tryz.isAgg162
 z171 := Tryz.sizeOf162
 v171 := Tryz.zeroValue162
 t173 := Tryz.underlying166
 a173 := Tryz.isAgg166
 z173 := Tryz.sizeOf166
 v173 := Tryz.zeroValue166
 t212 := Tryz.underlying174
 a212 := Tryz.isAgg174
 z212 := Tryz.sizeOf174
 v212 := Tryz.zeroValue174
 t213 := Tryz.underlying176
 a213 := Tryz.isAgg176
 z213 := Tryz.sizeOf176
 t232 := Tryz.underlying183
 a232 := Tryz.isAgg183
 z232 := Tryz.sizeOf183
 v232 := Tryz.zeroValue183
 t233 := Tryz.underlying184
 a233 := Tryz.isAgg184
 z233 := Tryz.sizeOf184
 v233 := Tryz.zeroValue184
 g17 := by kernel_rfl
 g18 := by kernel_rfl
 g19 := by kernel_rfl
 i0 := by kernel_rfl
 i2 := by kernel_rfl
 i3 := by kernel_rfl
 i4 := by kernel_rfl
 i5 := by kernel_rfl
 i9 := by kernel_rfl
 i20 := by kernel_rfl
 i37 := by kernel_rfl
 i46 := by kernel_rfl
 i51 := by kernel_rfl
 i53 := by kernel_rfl
 i171 := by kernel_rfl
 i173 := by kernel_rfl
 i212 := by kernel_rfl
 i232 := by kernel_rfl
 i233 := by kernel_rfl
 m17 := by kernel_rfl
 m18 := by kernel_rfl
 m19 := by kernel_rfl }
open Go.RowKit Go.Sort Go.Lib in
theorem Tryz.strconv_Itoa (n : Int) (h0 : -9223372036854775808 <= n) (h1 : n <= 9223372036854775807) (w : World) (htab : Lib.TabIs Tryz.prog w "internal/strconv.uint64pow10" .u64 Lib.pow10Tab) :
  Calls Tryz.prog 36 #[.int .i64 n] w fun e w' => e = .returned (.string ⟨(Lib.itoa n).toArray⟩) /\ ∃ k os, w' = grow (w.drewN k) os := Any.strconv_Itoa Tryz.laysM171 n h0 h1 w htab
def Tryz.UM : Go.Shelf.Ren := ⟨fun | 173 => 101 | 246 => 100 | 283 => 122 | 284 => 123 | 285 => 124 | 286 => 125 | 129 => 132 | 317 => 131 | 318 => 133 | 319 => 134 | 320 => 135 | 337 => 138 | 338 => 139 | n => n, fun | 2 => 2 | 3 => 3 | 9 => 9 | 4 => 4 | 171 => 162 | 0 => 0 | 53 => 163 | 37 => 64 | 5 => 5 | 173 => 166 | 212 => 174 | 51 => 175 | 20 => 20 | 213 => 176 | 46 => 177 | 232 => 183 | 233 => 184 | n => n, fun | 17 => 0 | 18 => 2 | 19 => 3 | n => n⟩
theorem Tryz.laysM173 : Go.Proofs.LaysM.n173 Tryz.prog Tryz.UM := {
 mixed := by kernel_rfl
 f129 := Tryz.func132.trans (congrArg some (by kernel_rfl))
 f173 := Tryz.func101.trans (congrArg some (by kernel_rfl))
 f246 := Tryz.func100.trans (congrArg some (by kernel_rfl))
 f283 := Tryz.func122.trans (congrArg some (by kernel_rfl))
 f284 := Tryz.func123.trans (congrArg some (by kernel_rfl))
 f285 := Tryz.func124.trans (congrArg some (by kernel_rfl))
 f286 := Tryz.func125.trans (congrArg some (by kernel_rfl))
 f317 := Tryz.func131.trans (congrArg some (by kernel_rfl))
 f318 := Tryz.func133.trans (congrArg some (by kernel_rfl))
 f319 := Tryz.func134.trans (congrArg some (by kernel_rfl))
 f320 := Tryz.func135.trans (congrArg some (by kernel_rfl))
 f337 := Tryz.func138.trans (congrArg some (by kernel_rfl))
 f338 := Tryz.func139.trans (congrArg some (by kernel_rfl))
 t0 := Tryz.underlying0
 a0 := Tryz.isAgg0
 z0 := Tryz.sizeOf0
 v0 := Tryz.zeroValue0
 t2 := Tryz.underlying2
 a2 := Tryz.isAgg2
 z2 := Tryz.sizeOf2
 v2 := Tryz.zeroValue2
 t3 := Tryz.underlying3
 a3 := Tryz.isAgg3
 z3 := Tryz.sizeOf3
 v3 := Tryz.zeroValue3
 t4 := Tryz.underlying4
 a4 := Tryz.isAgg4
 z4 := Tryz.sizeOf4
 v4 := Tryz.zeroValue4
 t5 := Tryz.underlying5
 a5 := Tryz.isAgg5
 z5 := Tryz.sizeOf5
 v5 := Tryz.zeroValue5
 t9 := Tryz.underlying9
 a9 := Tryz.isAgg9
 z9 := Tryz.sizeOf9
 v9 := Tryz.zeroValue9
 t20 := Tryz.underlying20
 a20 := Tryz.isAgg20
 z20 := Tryz.sizeOf20
 v20 := Tryz.zeroValue20
 t37 := Tryz.underlying64
 a37 := Tryz.isAgg64
 z37 := Tryz.sizeOf64
 v37 := Tryz.zeroValue64
 t46 := Tryz.underlying177
 a46 := Tryz.isAgg177
 z46 := Tryz.sizeOf177
 v46 := Tryz.zeroValue177
 t51 := Tryz.underlying175
 a51 := Tryz.isAgg175
 z51 := Tryz.sizeOf175
 v51 := Tryz.zeroValue175
 t53 := Tryz.underlying163
 a53 := Tryz.isAgg163
 z53 := Tryz.sizeOf163
 v53 := Tryz.zeroValue163
 t171 := Tryz.underlying162
 a171 := Tryz.isAgg162
 z171 := Tryz.sizeOf162
 v171 := Tryz.zeroValue162
 t173 := Tryz.underlying166
 a173 := Tryz.isAgg166
 z173 := Tryz.sizeOf166
 v173 := Tryz.zeroValue166
 t212 := Tryz.underlying174
 a212 := Tryz.isAgg174
 z212 := Tryz.sizeOf174
 v212 := Tryz.zeroValue174
 t213 := Tryz.underlying176
 a213 := Tryz.isAgg176
 z213 := Tryz.sizeOf176
 t232 := Tryz.underlying183
 a232 := Tryz.isAgg183
 z232 := Tryz.sizeOf183
 v232 := Tryz.zeroValue183
 t233 := Tryz.underlying184
 a233 := Tryz.isAgg184
 z233 := Tryz.sizeOf184
 v233 := Tryz.zeroValue184
 g17 := by kernel_rfl
 g18 := by kernel_rfl
 g19 := by kernel_rfl
 i0 := by kernel_rfl
 i2 := by kernel_rfl
 i3 := by kernel_rfl
 i4 := by kernel_rfl
 i5 := by kernel_rfl
 i9 := by kernel_rfl
 i20 := by kernel_rfl
 i37 := by kernel_rfl
 i46 := by kernel_rfl
 i51 := by kernel_rfl
 i53 := by kernel_rfl
 i171 := by kernel_rfl
 i173 := by kernel_rfl
 i212 := by kernel_rfl
 i232 := by kernel_rfl
 i233 := by kernel_rfl
 m17 := by kernel_rfl
 m18 := by kernel_rfl
 m19 := by kernel_rfl }
open Go.RowKit Go.Sort Go.Lib in
theorem Tryz.strconv_FormatInt_10 (n : Int) (h0 : -9223372036854775808 <= n) (h1 : n <= 9223372036854775807) (w : World) (htab : Lib.TabIs Tryz.prog w "internal/strconv.uint64pow10" .u64 Lib.pow10Tab) :
  Calls Tryz.prog 101 #[.int .i64 n, .int .i64 10] w fun e w' => e = .returned (.string ⟨(Lib.itoa n).toArray⟩) /\ ∃ k os, w' = grow (w.drewN k) os := Any.strconv_FormatInt_10 Tryz.laysM173 n h0 h1 w htab
end Go.Proofs
namespace Go.Proofs.YtglmonlofejcgaaGreatDoor
namespace Am
open Go.RowKit
structure dL (w : World) : Prop where
 size : 3 <= w.heap.size
 tab : Lib.TabIs Tryz.prog w "internal/strconv.uint64pow10" .u64 Lib.pow10Tab
theorem cell0 {w w0 : World} (h : ∀ b, b < 3 -> w.heap[b]? = w0.heap[b]?) (b i : Nat) (hb : b < 3) : w.cell? ⟨b, i, none⟩ = w0.cell? ⟨b, i, none⟩ := by
 simp only [World.cell?, h b hb]
theorem dL.here {w w0 : World} (k : dL w0) (h : ∀ b, b < 3 -> w.heap[b]? = w0.heap[b]?) : Lib.TabIs Tryz.prog w "internal/strconv.uint64pow10" .u64 Lib.pow10Tab := by
 have e := k.tab
 unfold Lib.TabIs World.var? at *
 rw [show Tryz.prog.globalNamed "internal/strconv.uint64pow10" = some 0 by kernel_rfl, apv] at *
 rw [h _ (by decide)]
 exact e
theorem Ug : ∀ f u acc, u < 10 ^ f -> 0 < f -> jS f u acc = Lib.decDigits u ++ acc
 | 0, _, _, _, h => by omega
 | f + 1, u, acc, h, _ => by
  rw [jS, Lib.decDigits]
  by_cases hu : u < 10
  ·rw [dif_pos hu, show Nat.blt u 10 = true by simpa [Nat.blt_eq] using hu]
   rfl
  ·rw [dif_neg hu, show Nat.blt u 10 = false from Bool.eq_false_iff.2 fun h => hu (by simpa [Nat.blt_eq] using h)]
   simp only [cond_false]
   have h1 : u / 10 < 10 ^ f := by rw [Nat.pow_succ] at h; omega
   have hf : 0 < f := by
    rcases Nat.eq_zero_or_pos f with rfl | hf
    ·simp at h1; omega
    ·exact hf
   rw [Ug f (u / 10) _ h1 hf]
   simp
abbrev a4b (n : Int) : List UInt8 := bM n
theorem xu (n : Int) (h0 : -9223372036854775808 <= n) (h1 : n <= 9223372036854775807) : a4b n = Lib.itoa n := by
 unfold a4b bM Lib.itoa
 cases n with
 | ofNat u =>
  have hu : u < 10 ^ 20 := by simp only [apu] at h1; omega
  simp only [Ug 20 u [] hu (by decide), apw]
  rw [if_neg (by simp only [apu]; omega)]
  rfl
 | negSucc u =>
  have hu : u + 1 < 10 ^ 20 := by omega
  simp only [Ug 20 (u + 1) [] hu (by decide), apw]
  rw [if_pos (by omega)]
  rfl
def inI (n : Int) : Bool := Int.ble' (-9223372036854775808) n && Int.ble' n 9223372036854775807
theorem a1E {n : Int} (h : inI n = true) : -9223372036854775808 <= n /\ n <= 9223372036854775807 := by
 unfold inI at h
 simpa [Int.ble'_eq_true] using h
def al7 (args : List A) : Option V := match args with
 | [.s (.int .i64 n)] => bif inI n then some (.a (.s (.str (a4b n)))) else none
 | _ => none
def fmtG (args : List A) : Option V := match args with
 | [.s (.int .i64 n), .s (.int .i64 b)] => bif inI n && b == 10 then some (.a (.s (.str (a4b n)))) else none
 | _ => none
abbrev base0 (w0 : World) {K : Know} {rho : Nat -> Int} {sig : Nat -> List UInt8} (ok : aG K rho sig) : Base := Base.known K ok 3 w0
section
variable {w0 : World} {K : Know} {rho : Nat -> Int} {sig : Nat -> List UInt8} (ok : aG K rho sig)
def ald : aS := qE 36 al7
def anJ : aS := qE 101 fmtG
def numO : aS := fun f a h fl => orR (ald f a h fl) (anJ f a h fl)
theorem EZ [Base] {r : Ren} {x : A} {vs : List Value} (h : ak (VA r) [x] vs) : ∃ v, vs = [v] /\ VA r x v := by
 match vs, h with
 | [v], h => exact ⟨v, rfl, h.1⟩
theorem a03 (k : dL w0) : @Sound (base0 w0 ok) Tryz.prog ald := by
 letI : Base := base0 w0 ok
 refine jk ⟨_, Tryz.func36, by kernel_rfl, by kernel_rfl⟩ fun args v hg r vs ha w hw => ?_
 unfold al7 at hg
 split at hg
 ·rename_i n
  obtain ⟨u, rfl, hu⟩ := EZ ha
  cases hu
  cases hi : inI n with
  | false => rw [hi] at hg; cases hg
  | true =>
   rw [hi] at hg
   cases hg
   obtain ⟨h0, h1⟩ := a1E hi
   refine (Tryz.strconv_Itoa n h0 h1 w (k.here hw)).mono fun e w' ⟨e1, n', os, e2⟩ => ⟨_, e1, ?_, ?_⟩
   ·show _ = _
    rw [xu n h0 h1]
   ·rw [e2]; exact Lib.below_grow _ _ (Nat.le_refl _) _ _
 ·cases hg
theorem FI [Base] {r : Ren} {x y : A} {vs : List Value} (h : ak (VA r) [x, y] vs) : ∃ v u, vs = [v, u] /\ VA r x v /\ VA r y u := by
 match vs, h with
 | [v, u], h => exact ⟨v, u, rfl, h.1, h.2.1⟩
theorem a4z (k : dL w0) : @Sound (base0 w0 ok) Tryz.prog anJ := by
 letI : Base := base0 w0 ok
 refine jk ⟨_, Tryz.func101, by kernel_rfl, by kernel_rfl⟩ fun args v hg r vs ha w hw => ?_
 unfold fmtG at hg
 split at hg
 ·rename_i n b
  obtain ⟨u, u', rfl, hu, hu'⟩ := FI ha
  cases hu
  cases hu'
  cases hi : (inI n && b == 10) with
  | false => rw [hi] at hg; cases hg
  | true =>
   rw [hi] at hg
   cases hg
   simp only [Bool.and_eq_true, beq_iff_eq] at hi
   obtain ⟨hi, rfl⟩ := hi
   obtain ⟨h0, h1⟩ := a1E hi
   refine (Tryz.strconv_FormatInt_10 n h0 h1 w (k.here hw)).mono fun e w' ⟨e1, n', os, e2⟩ => ⟨_, e1, ?_, ?_⟩
   ·show _ = _
    rw [xu n h0 h1]
   ·rw [e2]; exact Lib.below_grow _ _ (Nat.le_refl _) _ _
 ·cases hg
theorem Rx (k : dL w0) : @Sound (base0 w0 ok) Tryz.prog numO := @dZ (base0 w0 ok) _ _ _ (a03 ok k) (a4z ok k)
theorem aoX : ahd Tryz.prog (nC Tryz.prog) := by
 have hall : (Tryz.prog.funcs.toList.all fun F => !(F.name == "runtime.NumGoroutine")) = true := by kernel_rfl
 intro f F h
 refine ⟨h, ?_⟩
 have hm : F ∈ Tryz.prog.funcs.toList := by
  have h : Tryz.prog.funcs[f]? = some F := h
  rw [<- Array.getElem?_toList] at h
  exact List.mem_of_getElem? h
 simpa using List.all_eq_true.1 hall F hm
theorem mixed : Tryz.prog.follows .mixedOrders = true := by kernel_rfl
theorem CJ {lib : aS} (hl : @Sound (base0 w0 ok) Tryz.prog lib) (n d : Nat) : @Sound (base0 w0 ok) Tryz.prog (@runs K (mY Tryz.prog) (nC Tryz.prog) lib n d) :=
 @a2i (base0 w0 ok) _ _ (@sF (base0 w0 ok) Tryz.prog) _ aoX _ hl mixed n d
end
open Go.ChangeShapes Go.WideShapes Go.ChangeAt
theorem own : ownKnob Tryz.prog.godebug = none := by kernel_rfl
theorem laidOut : laidOutB Tryz.prog = true := by kernel_rfl
def Reads (P : Program) (w : World) (n : String) (d : DataW Unit) : Prop :=
 ∃ g t cs fuel p, P.globalNamed n = some g /\ (P.globals[g]?).map (·.type) = some t /\ w.var? P n = some cs /\ DataW.trod (fun _ => ()) P w 0 (fun _ => true) false fuel t cs.toList = some (d, p)
theorem Xx {P : Program} {w : World} : ∀ {l : List (String × DataW Unit)} {ps : List MemPlace}, DataW.LaidVars P w l ps -> ∀ n d, (n, d) ∈ l -> Reads P w n d
 | [], _, _, _, _, hm => by cases hm
 | (_, _) :: r, ps, h, n, d, hm => by
  obtain ⟨g, t, cs, fuel, p, q, h1, h2, h3, h4, h5, _⟩ := h
  rcases List.mem_cons.1 hm with e | e
  ·cases e
   exact ⟨g, t, cs, fuel, p, h1, h2, h3, h4⟩
  ·exact Xx h5 n d e
theorem TU {P : Program} {w : World} {l : List (String × DataW Unit)} (hh : (l.all fun x => x.2.handleName?.isNone) = true) (h : laidMetH P l w) {n : String} {d : DataW Unit} (hm : (n, d) ∈ l) : Reads P w n d := by
 rw [MakeChecks.laidMetH_plain _ _ _ hh] at h
 obtain ⟨_, hv, _⟩ := h
 exact Xx hv n d hm
theorem aem {P : Program} {w : World} {n : String} {g : Nat} {cs : Array Value} (hg : P.globalNamed n = some g) (h : w.var? P n = some cs) : g < w.heap.size := by
 simp only [World.var?, hg, apv] at h
 split at h
 ·rename_i he
  exact (Array.getElem?_eq_some_iff.1 he).1
 ·cases h
theorem aoN : Tryz.prog.globalNamed "internal/strconv.uint64pow10" = some 0 := by kernel_rfl
theorem anp : Tryz.prog.globalNamed "math/bits.deBruijn64tab" = some 3 := by kernel_rfl
theorem aaI {w : World} {l : List (String × DataW Unit)} (hh : (l.all fun x => x.2.handleName?.isNone) = true)
  (h2 : ("internal/strconv.uint64pow10", Rows.laid_internal_strconv_uint64pow10) ∈ l) (h3 : ("math/bits.deBruijn64tab", Rows.laid_math_bits_deBruijn64tab) ∈ l) (h : laidMetH Tryz.prog l w) : dL w := by
 obtain ⟨g', t', cs, fuel, p, k1, k2, k3, k4⟩ := TU hh h h3
 have := aem anp k3
 refine ⟨by omega, ?_⟩
 obtain ⟨g', t', cs, fuel, p, k1, k2, k3, k4⟩ := TU hh h h2
 obtain rfl := Option.some.inj (aoN.symm.trans k1)
 obtain rfl := Option.some.inj ((show (Tryz.prog.globals[0]?).map (·.type) = some 174 by kernel_rfl).symm.trans k2)
 have e : (Rows.laid_internal_strconv_uint64pow10 : DataW Unit) = Lib.tabData .u64 Lib.pow10Tab := by kernel_rfl
 rw [e] at k4
 have hc := Lib.cells_of_tab Tryz.underlying174 Tryz.underlying163 (by kernel_rfl) (by kernel_rfl) k4
 unfold Lib.TabIs
 rw [k3, <- hc]
end Am
end Go.Proofs.YtglmonlofejcgaaGreatDoor
