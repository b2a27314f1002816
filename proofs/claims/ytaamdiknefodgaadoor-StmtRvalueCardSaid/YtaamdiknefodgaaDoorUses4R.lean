/- What rvalues use: the runs. -/
import Derived.Test.YtaamdiknefodgaaDoorUses4
namespace Go.Proofs.YtaamdiknefodgaaDoor.Am
open Go.RowKit
set_option maxRecDepth 100000
def ruP : List Pl := [(5, (6, 7)), (10, (11, 12)), (13, (14, 15))]
noncomputable def ru0L : Lf := Lf.startX [(true, kRv)] ruP.length
noncomputable def ru1L : Lf := (ru0L.hi 0 (1 - 1))
def ru1T : Sp := .leaf
noncomputable def ru2L : Lf := (ru0L.lo 0 1)
noncomputable def ru3L : Lf := (ru2L.hi 0 (2 - 1))
def ru3T : Sp := (.cut 3 1 .leaf (.cut 3 2 (.conj [(5, 0), (6, 0), (7, 0)] (.conj [(8, 0), (9, 0), (10, 0), (11, 0), (12, 0)] (.conj [(13, 0), (14, 0), (15, 0)] (.cut 1 1 (.cut 2 1 .leaf .leaf) .leaf) .leaf) .leaf) .leaf) (.cut 3 3 (.cut 4 0 .leaf (.cut 4 1 (.cut 5 0 .leaf (.cut 5 16 (.cut 7 3 (.conj [(8, 0), (9, 0), (10, 0), (11, 0), (12, 0)] (.conj [(13, 0), (14, 0), (15, 0)] (.cut 1 1 (.cut 2 1 .leaf .leaf) .leaf) .leaf) .leaf) .leaf) .leaf)) .leaf)) (.cut 3 4 (.cut 4 0 .leaf (.cut 4 1 (.cut 5 0 .leaf (.cut 5 16 (.cut 7 3 (.conj [(8, 0), (9, 0), (10, 0), (11, 0), (12, 0)] (.conj [(13, 0), (14, 0), (15, 0)] (.cut 1 1 (.cut 2 1 .leaf .leaf) .leaf) .leaf) .leaf) .leaf) .leaf)) .leaf)) .leaf))))
noncomputable def ru4L : Lf := (ru2L.lo 0 2)
noncomputable def ru5L : Lf := (ru4L.hi 0 (3 - 1))
noncomputable def ru6L : Lf := (ru5L.hi 3 (1 - 1))
def ru6T : Sp := .leaf
noncomputable def ru7L : Lf := (ru5L.lo 3 1)
noncomputable def ru8L : Lf := (ru7L.hi 3 (2 - 1))
def ru8T : Sp := (.conj [(5, 0), (6, 0), (7, 0)] (.cut 8 1 .leaf (.cut 8 2 (.conj [(10, 0), (11, 0), (12, 0)] (.conj [(13, 0), (14, 0), (15, 0)] (.cut 1 1 .leaf (.cut 1 7 (.cut 2 1 .leaf .leaf) .leaf)) .leaf) .leaf) (.cut 8 3 (.cut 9 0 .leaf (.cut 9 1 (.cut 10 0 .leaf (.cut 10 16 (.cut 12 3 (.conj [(13, 0), (14, 0), (15, 0)] (.cut 1 1 .leaf (.cut 1 7 (.cut 2 1 .leaf .leaf) .leaf)) .leaf) .leaf) .leaf)) .leaf)) (.cut 8 4 (.cut 9 0 .leaf (.cut 9 1 (.cut 10 0 .leaf (.cut 10 16 (.cut 12 3 (.conj [(13, 0), (14, 0), (15, 0)] (.cut 1 1 .leaf (.cut 1 7 (.cut 2 1 .leaf .leaf) .leaf)) .leaf) .leaf) .leaf)) .leaf)) .leaf)))) .leaf)
noncomputable def ru9L : Lf := (ru7L.lo 3 2)
noncomputable def ru10L : Lf := (ru9L.hi 3 (3 - 1))
def ru10T : Sp := (.cut 4 0 .leaf (.cut 4 1 (.cut 5 0 .leaf (.cut 5 16 (.cut 7 3 (.cut 8 1 .leaf (.cut 8 2 (.conj [(10, 0), (11, 0), (12, 0)] (.conj [(13, 0), (14, 0), (15, 0)] (.cut 1 1 .leaf (.cut 1 7 (.cut 2 1 .leaf .leaf) .leaf)) .leaf) .leaf) (.cut 8 3 (.cut 9 0 .leaf (.cut 9 1 (.cut 10 0 .leaf (.cut 10 16 (.cut 12 3 (.conj [(13, 0), (14, 0), (15, 0)] (.cut 1 1 .leaf (.cut 1 7 (.cut 2 1 (.tri 10 5 .leaf .leaf .leaf) .leaf) .leaf)) .leaf) .leaf) .leaf)) .leaf)) (.cut 8 4 (.cut 9 0 .leaf (.cut 9 1 (.cut 10 0 .leaf (.cut 10 16 (.cut 12 3 (.conj [(13, 0), (14, 0), (15, 0)] (.cut 1 1 .leaf (.cut 1 7 (.cut 2 1 (.tri 10 5 .leaf .leaf .leaf) .leaf) .leaf)) .leaf) .leaf) .leaf)) .leaf)) .leaf)))) .leaf) .leaf)) .leaf))
noncomputable def ru11L : Lf := (ru9L.lo 3 3)
def ru11T : Sp := (.cut 3 4 (.cut 4 0 .leaf (.cut 4 1 (.cut 5 0 .leaf (.cut 5 16 (.cut 7 3 (.cut 8 1 .leaf (.cut 8 2 (.conj [(10, 0), (11, 0), (12, 0)] (.conj [(13, 0), (14, 0), (15, 0)] (.cut 1 1 .leaf (.cut 1 7 (.cut 2 1 .leaf .leaf) .leaf)) .leaf) .leaf) (.cut 8 3 (.cut 9 0 .leaf (.cut 9 1 (.cut 10 0 .leaf (.cut 10 16 (.cut 12 3 (.conj [(13, 0), (14, 0), (15, 0)] (.cut 1 1 .leaf (.cut 1 7 (.cut 2 1 (.tri 10 5 .leaf .leaf .leaf) .leaf) .leaf)) .leaf) .leaf) .leaf)) .leaf)) (.cut 8 4 (.cut 9 0 .leaf (.cut 9 1 (.cut 10 0 .leaf (.cut 10 16 (.cut 12 3 (.conj [(13, 0), (14, 0), (15, 0)] (.cut 1 1 .leaf (.cut 1 7 (.cut 2 1 (.tri 10 5 .leaf .leaf .leaf) .leaf) .leaf)) .leaf) .leaf) .leaf)) .leaf)) .leaf)))) .leaf) .leaf)) .leaf)) .leaf)
def ru9T : Sp := .cut 3 3 ru10T ru11T
def ru7T : Sp := .cut 3 2 ru8T ru9T
def ru5T : Sp := .cut 3 1 ru6T ru7T
noncomputable def ru12L : Lf := (ru4L.lo 0 3)
noncomputable def ru13L : Lf := (ru12L.hi 0 (4 - 1))
noncomputable def ru14L : Lf := (ru13L.hi 3 (1 - 1))
def ru14T : Sp := .leaf
noncomputable def ru15L : Lf := (ru13L.lo 3 1)
noncomputable def ru16L : Lf := (ru15L.hi 3 (2 - 1))
def ru16T : Sp := (.conj [(5, 0), (6, 0), (7, 0)] (.cut 8 1 .leaf (.cut 8 2 (.conj [(10, 0), (11, 0), (12, 0)] (.conj [(13, 0), (14, 0), (15, 0)] (.cut 1 1 (.cut 2 1 .leaf .leaf) .leaf) .leaf) .leaf) (.cut 8 3 (.cut 9 0 .leaf (.cut 9 1 (.cut 10 0 .leaf (.cut 10 16 (.cut 12 3 (.conj [(13, 0), (14, 0), (15, 0)] (.cut 1 1 (.cut 2 1 .leaf .leaf) .leaf) .leaf) .leaf) .leaf)) .leaf)) (.cut 8 4 (.cut 9 0 .leaf (.cut 9 1 (.cut 10 0 .leaf (.cut 10 16 (.cut 12 3 (.conj [(13, 0), (14, 0), (15, 0)] (.cut 1 1 (.cut 2 1 .leaf .leaf) .leaf) .leaf) .leaf) .leaf)) .leaf)) .leaf)))) .leaf)
noncomputable def ru17L : Lf := (ru15L.lo 3 2)
noncomputable def ru18L : Lf := (ru17L.hi 3 (3 - 1))
def ru18T : Sp := (.cut 4 0 .leaf (.cut 4 1 (.cut 5 0 .leaf (.cut 5 16 (.cut 7 3 (.cut 8 1 .leaf (.cut 8 2 (.conj [(10, 0), (11, 0), (12, 0)] (.conj [(13, 0), (14, 0), (15, 0)] (.cut 1 1 (.cut 2 1 .leaf .leaf) .leaf) .leaf) .leaf) (.cut 8 3 (.cut 9 0 .leaf (.cut 9 1 (.cut 10 0 .leaf (.cut 10 16 (.cut 12 3 (.conj [(13, 0), (14, 0), (15, 0)] (.cut 1 1 (.cut 2 1 (.tri 10 5 .leaf .leaf .leaf) .leaf) .leaf) .leaf) .leaf) .leaf)) .leaf)) (.cut 8 4 (.cut 9 0 .leaf (.cut 9 1 (.cut 10 0 .leaf (.cut 10 16 (.cut 12 3 (.conj [(13, 0), (14, 0), (15, 0)] (.cut 1 1 (.cut 2 1 (.tri 10 5 .leaf .leaf .leaf) .leaf) .leaf) .leaf) .leaf) .leaf)) .leaf)) .leaf)))) .leaf) .leaf)) .leaf))
noncomputable def ru19L : Lf := (ru17L.lo 3 3)
def ru19T : Sp := (.cut 3 4 (.cut 4 0 .leaf (.cut 4 1 (.cut 5 0 .leaf (.cut 5 16 (.cut 7 3 (.cut 8 1 .leaf (.cut 8 2 (.conj [(10, 0), (11, 0), (12, 0)] (.conj [(13, 0), (14, 0), (15, 0)] (.cut 1 1 (.cut 2 1 .leaf .leaf) .leaf) .leaf) .leaf) (.cut 8 3 (.cut 9 0 .leaf (.cut 9 1 (.cut 10 0 .leaf (.cut 10 16 (.cut 12 3 (.conj [(13, 0), (14, 0), (15, 0)] (.cut 1 1 (.cut 2 1 (.tri 10 5 .leaf .leaf .leaf) .leaf) .leaf) .leaf) .leaf) .leaf)) .leaf)) (.cut 8 4 (.cut 9 0 .leaf (.cut 9 1 (.cut 10 0 .leaf (.cut 10 16 (.cut 12 3 (.conj [(13, 0), (14, 0), (15, 0)] (.cut 1 1 (.cut 2 1 (.tri 10 5 .leaf .leaf .leaf) .leaf) .leaf) .leaf) .leaf) .leaf)) .leaf)) .leaf)))) .leaf) .leaf)) .leaf)) .leaf)
def ru17T : Sp := .cut 3 3 ru18T ru19T
def ru15T : Sp := .cut 3 2 ru16T ru17T
def ru13T : Sp := .cut 3 1 ru14T ru15T
noncomputable def ru20L : Lf := (ru12L.lo 0 4)
def ru20T : Sp := (.cut 0 5 (.conj [(3, 0), (4, 0), (5, 0), (6, 0), (7, 0)] (.conj [(8, 0), (9, 0), (10, 0), (11, 0), (12, 0)] (.cut 13 0 .leaf (.cut 13 16 (.cut 15 3 (.cut 1 1 (.cut 2 1 .leaf (.cut 2 4 .leaf .leaf)) .leaf) .leaf) .leaf)) .leaf) .leaf) (.cut 0 6 (.conj [(3, 0), (4, 0), (5, 0), (6, 0), (7, 0)] (.conj [(8, 0), (9, 0), (10, 0), (11, 0), (12, 0)] (.cut 13 0 .leaf (.cut 13 16 (.cut 15 3 (.cut 1 1 (.cut 2 1 .leaf .leaf) .leaf) .leaf) .leaf)) .leaf) .leaf) .leaf))
def ru12T : Sp := .cut 0 4 ru13T ru20T
def ru4T : Sp := .cut 0 3 ru5T ru12T
def ru2T : Sp := .cut 0 2 ru3T ru4T
def ru0T : Sp := .cut 0 1 ru1T ru2T
noncomputable def goodU_ruA (L : Lf) : Bool := cyc L || listAt (okRvE 0) kRv (@rvUX (L.know (strsT 0 kRv)) (cellsL kRv L) 0) L (runL 34 kRv ruP L)
theorem ruA_ru1 : (ru1T.leaves ru1L).all goodU_ruA = true := by kernel_rfl
theorem ruA_ru3 : (ru3T.leaves ru3L).all goodU_ruA = true := by kernel_rfl
theorem ruA_ru6 : (ru6T.leaves ru6L).all goodU_ruA = true := by kernel_rfl
theorem ruA_ru8 : (ru8T.leaves ru8L).all goodU_ruA = true := by kernel_rfl
theorem ruA_ru10 : (ru10T.leaves ru10L).all goodU_ruA = true := by kernel_rfl
theorem ruA_ru11 : (ru11T.leaves ru11L).all goodU_ruA = true := by kernel_rfl
theorem ruA_ru14 : (ru14T.leaves ru14L).all goodU_ruA = true := by kernel_rfl
theorem ruA_ru16 : (ru16T.leaves ru16L).all goodU_ruA = true := by kernel_rfl
theorem ruA_ru18 : (ru18T.leaves ru18L).all goodU_ruA = true := by kernel_rfl
theorem ruA_ru19 : (ru19T.leaves ru19L).all goodU_ruA = true := by kernel_rfl
theorem ruA_ru20 : (ru20T.leaves ru20L).all goodU_ruA = true := by kernel_rfl
theorem ruA_ru9 : (ru9T.leaves ru9L).all goodU_ruA = true := by
  have e : ru9T.leaves ru9L = ru10T.leaves ru10L ++ ru11T.leaves ru11L := rfl
  rw [e]
  simp only [List.all_append, ruA_ru10, ruA_ru11, Bool.and_self]
theorem ruA_ru7 : (ru7T.leaves ru7L).all goodU_ruA = true := by
  have e : ru7T.leaves ru7L = ru8T.leaves ru8L ++ ru9T.leaves ru9L := rfl
  rw [e]
  simp only [List.all_append, ruA_ru8, ruA_ru9, Bool.and_self]
theorem ruA_ru5 : (ru5T.leaves ru5L).all goodU_ruA = true := by
  have e : ru5T.leaves ru5L = ru6T.leaves ru6L ++ ru7T.leaves ru7L := rfl
  rw [e]
  simp only [List.all_append, ruA_ru6, ruA_ru7, Bool.and_self]
theorem ruA_ru17 : (ru17T.leaves ru17L).all goodU_ruA = true := by
  have e : ru17T.leaves ru17L = ru18T.leaves ru18L ++ ru19T.leaves ru19L := rfl
  rw [e]
  simp only [List.all_append, ruA_ru18, ruA_ru19, Bool.and_self]
theorem ruA_ru15 : (ru15T.leaves ru15L).all goodU_ruA = true := by
  have e : ru15T.leaves ru15L = ru16T.leaves ru16L ++ ru17T.leaves ru17L := rfl
  rw [e]
  simp only [List.all_append, ruA_ru16, ruA_ru17, Bool.and_self]
theorem ruA_ru13 : (ru13T.leaves ru13L).all goodU_ruA = true := by
  have e : ru13T.leaves ru13L = ru14T.leaves ru14L ++ ru15T.leaves ru15L := rfl
  rw [e]
  simp only [List.all_append, ruA_ru14, ruA_ru15, Bool.and_self]
theorem ruA_ru12 : (ru12T.leaves ru12L).all goodU_ruA = true := by
  have e : ru12T.leaves ru12L = ru13T.leaves ru13L ++ ru20T.leaves ru20L := rfl
  rw [e]
  simp only [List.all_append, ruA_ru13, ruA_ru20, Bool.and_self]
theorem ruA_ru4 : (ru4T.leaves ru4L).all goodU_ruA = true := by
  have e : ru4T.leaves ru4L = ru5T.leaves ru5L ++ ru12T.leaves ru12L := rfl
  rw [e]
  simp only [List.all_append, ruA_ru5, ruA_ru12, Bool.and_self]
theorem ruA_ru2 : (ru2T.leaves ru2L).all goodU_ruA = true := by
  have e : ru2T.leaves ru2L = ru3T.leaves ru3L ++ ru4T.leaves ru4L := rfl
  rw [e]
  simp only [List.all_append, ruA_ru3, ruA_ru4, Bool.and_self]
theorem ruA_ru0 : (ru0T.leaves ru0L).all goodU_ruA = true := by
  have e : ru0T.leaves ru0L = ru1T.leaves ru1L ++ ru2T.leaves ru2L := rfl
  rw [e]
  simp only [List.all_append, ruA_ru1, ruA_ru2, Bool.and_self]
theorem ruA_lists : ListsE 34 kRv (okRvE 0) (fun us => rvU (rvAt us 0)) := lists_of (pls := ruP) (fun L xs => @rvUX (L.know (strsT 0 kRv)) xs 0) (fun b0 L r xs us q hK ha h => by rw [← hK] at h; exact @rvUX_ok b0 r xs us ha 0 q h) (by kernel_rfl) (sp := ru0T) ruA_ru0
noncomputable def goodU_ruB (L : Lf) : Bool := cyc L || arrAt (okRvE 0) kRv (@rvUX (L.know (strsT 0 kRv)) (cellsL kRv L) 0) L (runL 107 kRv ruP L)
theorem ruB_ru1 : (ru1T.leaves ru1L).all goodU_ruB = true := by kernel_rfl
theorem ruB_ru3 : (ru3T.leaves ru3L).all goodU_ruB = true := by kernel_rfl
theorem ruB_ru6 : (ru6T.leaves ru6L).all goodU_ruB = true := by kernel_rfl
theorem ruB_ru8 : (ru8T.leaves ru8L).all goodU_ruB = true := by kernel_rfl
theorem ruB_ru10 : (ru10T.leaves ru10L).all goodU_ruB = true := by kernel_rfl
theorem ruB_ru11 : (ru11T.leaves ru11L).all goodU_ruB = true := by kernel_rfl
theorem ruB_ru14 : (ru14T.leaves ru14L).all goodU_ruB = true := by kernel_rfl
theorem ruB_ru16 : (ru16T.leaves ru16L).all goodU_ruB = true := by kernel_rfl
theorem ruB_ru18 : (ru18T.leaves ru18L).all goodU_ruB = true := by kernel_rfl
theorem ruB_ru19 : (ru19T.leaves ru19L).all goodU_ruB = true := by kernel_rfl
theorem ruB_ru20 : (ru20T.leaves ru20L).all goodU_ruB = true := by kernel_rfl
theorem ruB_ru9 : (ru9T.leaves ru9L).all goodU_ruB = true := by
  have e : ru9T.leaves ru9L = ru10T.leaves ru10L ++ ru11T.leaves ru11L := rfl
  rw [e]
  simp only [List.all_append, ruB_ru10, ruB_ru11, Bool.and_self]
theorem ruB_ru7 : (ru7T.leaves ru7L).all goodU_ruB = true := by
  have e : ru7T.leaves ru7L = ru8T.leaves ru8L ++ ru9T.leaves ru9L := rfl
  rw [e]
  simp only [List.all_append, ruB_ru8, ruB_ru9, Bool.and_self]
theorem ruB_ru5 : (ru5T.leaves ru5L).all goodU_ruB = true := by
  have e : ru5T.leaves ru5L = ru6T.leaves ru6L ++ ru7T.leaves ru7L := rfl
  rw [e]
  simp only [List.all_append, ruB_ru6, ruB_ru7, Bool.and_self]
theorem ruB_ru17 : (ru17T.leaves ru17L).all goodU_ruB = true := by
  have e : ru17T.leaves ru17L = ru18T.leaves ru18L ++ ru19T.leaves ru19L := rfl
  rw [e]
  simp only [List.all_append, ruB_ru18, ruB_ru19, Bool.and_self]
theorem ruB_ru15 : (ru15T.leaves ru15L).all goodU_ruB = true := by
  have e : ru15T.leaves ru15L = ru16T.leaves ru16L ++ ru17T.leaves ru17L := rfl
  rw [e]
  simp only [List.all_append, ruB_ru16, ruB_ru17, Bool.and_self]
theorem ruB_ru13 : (ru13T.leaves ru13L).all goodU_ruB = true := by
  have e : ru13T.leaves ru13L = ru14T.leaves ru14L ++ ru15T.leaves ru15L := rfl
  rw [e]
  simp only [List.all_append, ruB_ru14, ruB_ru15, Bool.and_self]
theorem ruB_ru12 : (ru12T.leaves ru12L).all goodU_ruB = true := by
  have e : ru12T.leaves ru12L = ru13T.leaves ru13L ++ ru20T.leaves ru20L := rfl
  rw [e]
  simp only [List.all_append, ruB_ru13, ruB_ru20, Bool.and_self]
theorem ruB_ru4 : (ru4T.leaves ru4L).all goodU_ruB = true := by
  have e : ru4T.leaves ru4L = ru5T.leaves ru5L ++ ru12T.leaves ru12L := rfl
  rw [e]
  simp only [List.all_append, ruB_ru5, ruB_ru12, Bool.and_self]
theorem ruB_ru2 : (ru2T.leaves ru2L).all goodU_ruB = true := by
  have e : ru2T.leaves ru2L = ru3T.leaves ru3L ++ ru4T.leaves ru4L := rfl
  rw [e]
  simp only [List.all_append, ruB_ru3, ruB_ru4, Bool.and_self]
theorem ruB_ru0 : (ru0T.leaves ru0L).all goodU_ruB = true := by
  have e : ru0T.leaves ru0L = ru1T.leaves ru1L ++ ru2T.leaves ru2L := rfl
  rw [e]
  simp only [List.all_append, ruB_ru1, ruB_ru2, Bool.and_self]
theorem ruB_arrs : ArrE 107 kRv (okRvE 0) (fun us => rvU (rvAt us 0)) := arrs_of (pls := ruP) (fun L xs => @rvUX (L.know (strsT 0 kRv)) xs 0) (fun b0 L r xs us q hK ha h => by rw [← hK] at h; exact @rvUX_ok b0 r xs us ha 0 q h) (by kernel_rfl) (sp := ru0T) ruB_ru0
end Go.Proofs.YtaamdiknefodgaaDoor.Am
