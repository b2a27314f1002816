/- slices.Insert at []int: the library's contracts, at this program. -/
import Derived.Test.YtaamdiknefodgaaDoorProg
import Derived.Shelf.Spec.SlicesInsert
import Derived.Shelf.Spec.SlicesInsertGrow
import Derived.Test.YtaamdiknefodgaaDoorAmIns
namespace Go.Proofs.YtaamdiknefodgaaDoor.Am
open Go.RowKit
def insRen : Go.Shelf.Ren := ⟨fun | 21 => 81 | 27 => 104 | 28 => 105 | 35 => 118 | 39 => 136 | n => n, fun | 0 => 0 | 3 => 3 | 4 => 4 | 22 => 31 | n => n, fun | n => n⟩
theorem insLays : Go.Proofs.Lays2.n21 Tryd.prog insRen := {
  mixed := by kernel_rfl
  f21 := by kernel_rfl
  f27 := by kernel_rfl
  f28 := by kernel_rfl
  f35 := by kernel_rfl
  f39 := by kernel_rfl
  t0 := by kernel_rfl
  a0 := Tryd.isAgg0
  z0 := Tryd.sizeOf0
  v0 := Tryd.zeroValue0
  t3 := by kernel_rfl
  a3 := Tryd.isAgg3
  z3 := Tryd.sizeOf3
  v3 := Tryd.zeroValue3
  t4 := by kernel_rfl
  a4 := Tryd.isAgg4
  z4 := Tryd.sizeOf4
  v4 := Tryd.zeroValue4
  t22 := by kernel_rfl
  a22 := Tryd.isAgg31
  z22 := Tryd.sizeOf31
  v22 := Tryd.zeroValue31
  i3 := by kernel_rfl }
theorem insOk [Base] : InsOk Tryd.prog 81 3 (.int .i64 0) where
  call := ⟨_, Tryd.func81, by kernel_rfl, by kernel_rfl⟩
  z1 := rfl
  shift b n c i vb voff m vc cs vs w h1 h2 h3 h4 h5 h6 h7 h8 h9 h10 h11 h12 h13 tA tB kA kB k1 k2 k3 k4 k5 :=
    Any2.slices_Insert_int_shift insLays b 0 n c i vb voff m vc cs vs w h1 h2 h3 h4 h5 h6 h7 h8 h9 h10 h11 h12 h13 tA tB kA kB k1 k2 k3 k4 k5
  grow b n c i vb voff m vc cs vs w h1 h2 h3 h4 h5 h6 h7 h8 h9 h10 h11 :=
    Any2.slices_Insert_int_grow insLays b 0 n c i vb voff m vc cs vs w h1 h2 h3 h4 h5 h6 h7 h8 h9 h10 h11
noncomputable abbrev insXO : Oracle := insO 81
theorem sound_insX (b : Base) : @Sound b Tryd.prog insXO := @sound_ins b _ _ _ _ (@insOk b)
end Go.Proofs.YtaamdiknefodgaaDoor.Am
