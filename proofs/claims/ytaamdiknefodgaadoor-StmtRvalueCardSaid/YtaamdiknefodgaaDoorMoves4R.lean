/- What rvalues move: value.Moves. -/
import Derived.Test.YtaamdiknefodgaaDoorUses4R
namespace Go.Proofs.YtaamdiknefodgaaDoor.Am
open Go.RowKit
set_option maxRecDepth 100000
noncomputable def goodM_rm (L : Lf) : Bool := cyc L || listAt (okRvE 0) kRv (@rvMX (L.know (strsT 0 kRv)) (cellsL kRv L) 0) L (runL 35 kRv ruP L)
theorem rmA_ru1 : (ru1T.leaves ru1L).all goodM_rm = true := by kernel_rfl
theorem rmA_ru3 : (ru3T.leaves ru3L).all goodM_rm = true := by kernel_rfl
theorem rmA_ru6 : (ru6T.leaves ru6L).all goodM_rm = true := by kernel_rfl
theorem rmA_ru8 : (ru8T.leaves ru8L).all goodM_rm = true := by kernel_rfl
theorem rmA_ru10 : (ru10T.leaves ru10L).all goodM_rm = true := by kernel_rfl
theorem rmA_ru11 : (ru11T.leaves ru11L).all goodM_rm = true := by kernel_rfl
theorem rmA_ru14 : (ru14T.leaves ru14L).all goodM_rm = true := by kernel_rfl
theorem rmA_ru16 : (ru16T.leaves ru16L).all goodM_rm = true := by kernel_rfl
theorem rmA_ru18 : (ru18T.leaves ru18L).all goodM_rm = true := by kernel_rfl
theorem rmA_ru19 : (ru19T.leaves ru19L).all goodM_rm = true := by kernel_rfl
theorem rmA_ru20 : (ru20T.leaves ru20L).all goodM_rm = true := by kernel_rfl
theorem rmA_ru9 : (ru9T.leaves ru9L).all goodM_rm = true := by
  have e : ru9T.leaves ru9L = ru10T.leaves ru10L ++ ru11T.leaves ru11L := rfl
  rw [e]
  simp only [List.all_append, rmA_ru10, rmA_ru11, Bool.and_self]
theorem rmA_ru7 : (ru7T.leaves ru7L).all goodM_rm = true := by
  have e : ru7T.leaves ru7L = ru8T.leaves ru8L ++ ru9T.leaves ru9L := rfl
  rw [e]
  simp only [List.all_append, rmA_ru8, rmA_ru9, Bool.and_self]
theorem rmA_ru5 : (ru5T.leaves ru5L).all goodM_rm = true := by
  have e : ru5T.leaves ru5L = ru6T.leaves ru6L ++ ru7T.leaves ru7L := rfl
  rw [e]
  simp only [List.all_append, rmA_ru6, rmA_ru7, Bool.and_self]
theorem rmA_ru17 : (ru17T.leaves ru17L).all goodM_rm = true := by
  have e : ru17T.leaves ru17L = ru18T.leaves ru18L ++ ru19T.leaves ru19L := rfl
  rw [e]
  simp only [List.all_append, rmA_ru18, rmA_ru19, Bool.and_self]
theorem rmA_ru15 : (ru15T.leaves ru15L).all goodM_rm = true := by
  have e : ru15T.leaves ru15L = ru16T.leaves ru16L ++ ru17T.leaves ru17L := rfl
  rw [e]
  simp only [List.all_append, rmA_ru16, rmA_ru17, Bool.and_self]
theorem rmA_ru13 : (ru13T.leaves ru13L).all goodM_rm = true := by
  have e : ru13T.leaves ru13L = ru14T.leaves ru14L ++ ru15T.leaves ru15L := rfl
  rw [e]
  simp only [List.all_append, rmA_ru14, rmA_ru15, Bool.and_self]
theorem rmA_ru12 : (ru12T.leaves ru12L).all goodM_rm = true := by
  have e : ru12T.leaves ru12L = ru13T.leaves ru13L ++ ru20T.leaves ru20L := rfl
  rw [e]
  simp only [List.all_append, rmA_ru13, rmA_ru20, Bool.and_self]
theorem rmA_ru4 : (ru4T.leaves ru4L).all goodM_rm = true := by
  have e : ru4T.leaves ru4L = ru5T.leaves ru5L ++ ru12T.leaves ru12L := rfl
  rw [e]
  simp only [List.all_append, rmA_ru5, rmA_ru12, Bool.and_self]
theorem rmA_ru2 : (ru2T.leaves ru2L).all goodM_rm = true := by
  have e : ru2T.leaves ru2L = ru3T.leaves ru3L ++ ru4T.leaves ru4L := rfl
  rw [e]
  simp only [List.all_append, rmA_ru3, rmA_ru4, Bool.and_self]
theorem rmA_ru0 : (ru0T.leaves ru0L).all goodM_rm = true := by
  have e : ru0T.leaves ru0L = ru1T.leaves ru1L ++ ru2T.leaves ru2L := rfl
  rw [e]
  simp only [List.all_append, rmA_ru1, rmA_ru2, Bool.and_self]
theorem rmA_lists : ListsE 35 kRv (okRvE 0) (fun us => rvM (rvAt us 0)) := lists_of (pls := ruP) (fun L xs => @rvMX (L.know (strsT 0 kRv)) xs 0) (fun b0 L r xs us q hK ha h => by rw [← hK] at h; exact @rvMX_ok b0 r xs us ha 0 q h) (by kernel_rfl) (sp := ru0T) rmA_ru0
end Go.Proofs.YtaamdiknefodgaaDoor.Am
