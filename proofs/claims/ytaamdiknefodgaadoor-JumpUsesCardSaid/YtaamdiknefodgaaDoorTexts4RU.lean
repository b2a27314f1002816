/- OperandText, Text and the reference's Written: the texts of operands and rvalues. -/
import Derived.Test.YtaamdiknefodgaaDoorTexts4U
namespace Go.Proofs.YtaamdiknefodgaaDoor.Am
open Go.RowKit
set_option maxRecDepth 100000
def tlP : List Pl := [(0, (1, 2))]
def tlT : Sp := .cut 0 0 .leaf (.cut 0 16 (.cut 2 3 .leaf .leaf) .leaf)
theorem tplA_texts : Texts Tryd.prog TabOk 33 kPl (okPlE 0) (fun us => placeT (cellI us 0) (decide (cellI us 1 = 1)) (cellI us 2)) vS2 := texts_of mS2_ok (pls := tlP) (fun L xs => plcX kPl tlP L xs 0) (fun b0 L r xs us l hL d e ha h => @plcX_ok b0 r L kPl tlP xs us hL e ha 0 l h) (by kernel_rfl) (sp := tlT) (by kernel_rfl)
theorem tplB_texts : Texts Tryd.prog TabOk 99 kPl (okPlE 0) (fun us => placeT (cellI us 0) (decide (cellI us 1 = 1)) (cellI us 2)) vS1 := texts_of mS1_ok (pls := tlP) (fun L xs => plcX kPl tlP L xs 0) (fun b0 L r xs us l hL d e ha h => @plcX_ok b0 r L kPl tlP xs us hL e ha 0 l h) (by kernel_rfl) (sp := tlT) (by kernel_rfl)
def tpP : List Pl := [(2, (3, 4))]
noncomputable def tp0L : Lf := Lf.startX [(true, kOp)] tpP.length
def tp0T : Sp := (.cut 0 1 .leaf (.cut 0 2 (.conj [(2, 0), (3, 0), (4, 0)] .leaf .leaf) (.cut 0 3 (.cut 1 0 .leaf (.cut 1 1 (.cut 2 0 .leaf (.cut 2 16 (.cut 4 3 .leaf .leaf) .leaf)) .leaf)) (.cut 0 4 (.cut 1 0 .leaf (.cut 1 1 (.cut 2 0 .leaf (.cut 2 16 (.cut 4 3 .leaf .leaf) .leaf)) .leaf)) .leaf))))
noncomputable def goodT_topA (L : Lf) : Bool := textAt (okOpE 0) kOp mS2 ((fun L xs => opX kOp tpP L xs 0) L (cellsL kOp L)) L (runT 54 kOp tpP L)
theorem topA_tp0 : (tp0T.leaves tp0L).all goodT_topA = true := by kernel_rfl
theorem topA_texts : Texts Tryd.prog TabOk 54 kOp (okOpE 0) (fun us => opT (opdAt us 0)) vS2 := texts_of mS2_ok (pls := tpP) (fun L xs => (fun L xs => opX kOp tpP L xs 0) L xs) (fun b0 L r xs us l hL d e ha h => @opX_ok b0 r L kOp tpP xs us hL d e ha 0 l h) (by kernel_rfl) (sp := tp0T) topA_tp0
noncomputable def goodT_topB (L : Lf) : Bool := textAt (okOpE 0) kOp mS1 ((fun L xs => opX kOp tpP L xs 0) L (cellsL kOp L)) L (runT 98 kOp tpP L)
theorem topB_tp0 : (tp0T.leaves tp0L).all goodT_topB = true := by kernel_rfl
theorem topB_texts : Texts Tryd.prog TabOk 98 kOp (okOpE 0) (fun us => opT (opdAt us 0)) vS1 := texts_of mS1_ok (pls := tpP) (fun L xs => (fun L xs => opX kOp tpP L xs 0) L xs) (fun b0 L r xs us l hL d e ha h => @opX_ok b0 r L kOp tpP xs us hL d e ha 0 l h) (by kernel_rfl) (sp := tp0T) topB_tp0
def tvP : List Pl := [(5, (6, 7)), (10, (11, 12)), (13, (14, 15))]
noncomputable def tv0L : Lf := Lf.startX [(true, kRv)] tvP.length
noncomputable def tv1L : Lf := (tv0L.hi 0 (1 - 1))
def tv1T : Sp := .leaf
noncomputable def tv2L : Lf := (tv0L.lo 0 1)
noncomputable def tv3L : Lf := (tv2L.hi 0 (2 - 1))
def tv3T : Sp := (.cut 3 1 .leaf (.cut 3 2 (.conj [(5, 0), (6, 0), (7, 0)] (.conj [(8, 0), (9, 0), (10, 0), (11, 0), (12, 0)] (.conj [(13, 0), (14, 0), (15, 0)] (.cut 1 1 (.cut 2 1 .leaf .leaf) .leaf) .leaf) .leaf) .leaf) (.cut 3 3 (.cut 4 0 .leaf (.cut 4 1 (.cut 5 0 .leaf (.cut 5 16 (.cut 7 3 (.conj [(8, 0), (9, 0), (10, 0), (11, 0), (12, 0)] (.conj [(13, 0), (14, 0), (15, 0)] (.cut 1 1 (.cut 2 1 .leaf .leaf) .leaf) .leaf) .leaf) .leaf) .leaf)) .leaf)) (.cut 3 4 (.cut 4 0 .leaf (.cut 4 1 (.cut 5 0 .leaf (.cut 5 16 (.cut 7 3 (.conj [(8, 0), (9, 0), (10, 0), (11, 0), (12, 0)] (.conj [(13, 0), (14, 0), (15, 0)] (.cut 1 1 (.cut 2 1 .leaf .leaf) .leaf) .leaf) .leaf) .leaf) .leaf)) .leaf)) .leaf))))
noncomputable def tv4L : Lf := (tv2L.lo 0 2)
noncomputable def tv5L : Lf := (tv4L.hi 0 (3 - 1))
noncomputable def tv6L : Lf := (tv5L.hi 3 (1 - 1))
def tv6T : Sp := .leaf
noncomputable def tv7L : Lf := (tv5L.lo 3 1)
noncomputable def tv8L : Lf := (tv7L.hi 3 (2 - 1))
noncomputable def tv9L : Lf := (tv8L.all [(5, 0), (6, 0), (7, 0)])
noncomputable def tv10L : Lf := (tv9L.hi 8 (1 - 1))
def tv10T : Sp := .leaf
noncomputable def tv11L : Lf := (tv9L.lo 8 1)
noncomputable def tv12L : Lf := (tv11L.hi 8 (2 - 1))
def tv12T : Sp := (.conj [(10, 0), (11, 0), (12, 0)] (.conj [(13, 0), (14, 0), (15, 0)] (.cut 1 1 .leaf (.cut 1 7 (.cut 2 1 (.cut 1 4 (.cut 1 2 .leaf (.cut 1 3 .leaf .leaf)) (.cut 1 5 .leaf (.cut 1 6 .leaf .leaf))) .leaf) .leaf)) .leaf) .leaf)
noncomputable def tv13L : Lf := (tv11L.lo 8 2)
def tv13T : Sp := (.cut 8 3 (.cut 9 0 .leaf (.cut 9 1 (.cut 10 0 .leaf (.cut 10 16 (.cut 12 3 (.conj [(13, 0), (14, 0), (15, 0)] (.cut 1 1 .leaf (.cut 1 7 (.cut 2 1 (.cut 1 4 (.cut 1 2 .leaf (.cut 1 3 .leaf .leaf)) (.cut 1 5 .leaf (.cut 1 6 .leaf .leaf))) .leaf) .leaf)) .leaf) .leaf) .leaf)) .leaf)) (.cut 8 4 (.cut 9 0 .leaf (.cut 9 1 (.cut 10 0 .leaf (.cut 10 16 (.cut 12 3 (.conj [(13, 0), (14, 0), (15, 0)] (.cut 1 1 .leaf (.cut 1 7 (.cut 2 1 (.cut 1 4 (.cut 1 2 .leaf (.cut 1 3 .leaf .leaf)) (.cut 1 5 .leaf (.cut 1 6 .leaf .leaf))) .leaf) .leaf)) .leaf) .leaf) .leaf)) .leaf)) .leaf))
def tv11T : Sp := .cut 8 2 tv12T tv13T
def tv9T : Sp := .cut 8 1 tv10T tv11T
noncomputable def tv14L : Lf := { tv8L with cf := [(5, 0), (6, 0), (7, 0)] :: tv8L.cf }
def tv14T : Sp := .leaf
def tv8T : Sp := .conj [(5, 0), (6, 0), (7, 0)] tv9T tv14T
noncomputable def tv15L : Lf := (tv7L.lo 3 2)
noncomputable def tv16L : Lf := (tv15L.hi 3 (3 - 1))
noncomputable def tv17L : Lf := (tv16L.hi 4 (0 - 1))
def tv17T : Sp := .leaf
noncomputable def tv18L : Lf := (tv16L.lo 4 0)
noncomputable def tv19L : Lf := (tv18L.hi 4 (1 - 1))
noncomputable def tv20L : Lf := (tv19L.hi 5 (0 - 1))
def tv20T : Sp := .leaf
noncomputable def tv21L : Lf := (tv19L.lo 5 0)
noncomputable def tv22L : Lf := (tv21L.hi 5 (16 - 1))
noncomputable def tv23L : Lf := (tv22L.hi 7 (3 - 1))
noncomputable def tv24L : Lf := (tv23L.hi 8 (1 - 1))
def tv24T : Sp := .leaf
noncomputable def tv25L : Lf := (tv23L.lo 8 1)
noncomputable def tv26L : Lf := (tv25L.hi 8 (2 - 1))
def tv26T : Sp := (.conj [(10, 0), (11, 0), (12, 0)] (.conj [(13, 0), (14, 0), (15, 0)] (.cut 1 1 .leaf (.cut 1 7 (.cut 2 1 (.cut 1 4 (.cut 1 2 .leaf (.cut 1 3 .leaf .leaf)) (.cut 1 5 .leaf (.cut 1 6 .leaf .leaf))) .leaf) .leaf)) .leaf) .leaf)
noncomputable def tv27L : Lf := (tv25L.lo 8 2)
def tv27T : Sp := (.cut 8 3 (.cut 9 0 .leaf (.cut 9 1 (.cut 10 0 .leaf (.cut 10 16 (.cut 12 3 (.conj [(13, 0), (14, 0), (15, 0)] (.cut 1 1 .leaf (.cut 1 7 (.cut 2 1 (.cut 1 4 (.cut 1 2 .leaf (.cut 1 3 .leaf .leaf)) (.cut 1 5 .leaf (.cut 1 6 .leaf .leaf))) .leaf) .leaf)) .leaf) .leaf) .leaf)) .leaf)) (.cut 8 4 (.cut 9 0 .leaf (.cut 9 1 (.cut 10 0 .leaf (.cut 10 16 (.cut 12 3 (.conj [(13, 0), (14, 0), (15, 0)] (.cut 1 1 .leaf (.cut 1 7 (.cut 2 1 (.cut 1 4 (.cut 1 2 .leaf (.cut 1 3 .leaf .leaf)) (.cut 1 5 .leaf (.cut 1 6 .leaf .leaf))) .leaf) .leaf)) .leaf) .leaf) .leaf)) .leaf)) .leaf))
def tv25T : Sp := .cut 8 2 tv26T tv27T
def tv23T : Sp := .cut 8 1 tv24T tv25T
noncomputable def tv28L : Lf := (tv22L.lo 7 3)
def tv28T : Sp := .leaf
def tv22T : Sp := .cut 7 3 tv23T tv28T
noncomputable def tv29L : Lf := (tv21L.lo 5 16)
def tv29T : Sp := .leaf
def tv21T : Sp := .cut 5 16 tv22T tv29T
def tv19T : Sp := .cut 5 0 tv20T tv21T
noncomputable def tv30L : Lf := (tv18L.lo 4 1)
def tv30T : Sp := .leaf
def tv18T : Sp := .cut 4 1 tv19T tv30T
def tv16T : Sp := .cut 4 0 tv17T tv18T
noncomputable def tv31L : Lf := (tv15L.lo 3 3)
noncomputable def tv32L : Lf := (tv31L.hi 3 (4 - 1))
noncomputable def tv33L : Lf := (tv32L.hi 4 (0 - 1))
def tv33T : Sp := .leaf
noncomputable def tv34L : Lf := (tv32L.lo 4 0)
noncomputable def tv35L : Lf := (tv34L.hi 4 (1 - 1))
noncomputable def tv36L : Lf := (tv35L.hi 5 (0 - 1))
def tv36T : Sp := .leaf
noncomputable def tv37L : Lf := (tv35L.lo 5 0)
noncomputable def tv38L : Lf := (tv37L.hi 5 (16 - 1))
noncomputable def tv39L : Lf := (tv38L.hi 7 (3 - 1))
noncomputable def tv40L : Lf := (tv39L.hi 8 (1 - 1))
def tv40T : Sp := .leaf
noncomputable def tv41L : Lf := (tv39L.lo 8 1)
noncomputable def tv42L : Lf := (tv41L.hi 8 (2 - 1))
def tv42T : Sp := (.conj [(10, 0), (11, 0), (12, 0)] (.conj [(13, 0), (14, 0), (15, 0)] (.cut 1 1 .leaf (.cut 1 7 (.cut 2 1 (.cut 1 4 (.cut 1 2 .leaf (.cut 1 3 .leaf .leaf)) (.cut 1 5 .leaf (.cut 1 6 .leaf .leaf))) .leaf) .leaf)) .leaf) .leaf)
noncomputable def tv43L : Lf := (tv41L.lo 8 2)
def tv43T : Sp := (.cut 8 3 (.cut 9 0 .leaf (.cut 9 1 (.cut 10 0 .leaf (.cut 10 16 (.cut 12 3 (.conj [(13, 0), (14, 0), (15, 0)] (.cut 1 1 .leaf (.cut 1 7 (.cut 2 1 (.cut 1 4 (.cut 1 2 .leaf (.cut 1 3 .leaf .leaf)) (.cut 1 5 .leaf (.cut 1 6 .leaf .leaf))) .leaf) .leaf)) .leaf) .leaf) .leaf)) .leaf)) (.cut 8 4 (.cut 9 0 .leaf (.cut 9 1 (.cut 10 0 .leaf (.cut 10 16 (.cut 12 3 (.conj [(13, 0), (14, 0), (15, 0)] (.cut 1 1 .leaf (.cut 1 7 (.cut 2 1 (.cut 1 4 (.cut 1 2 .leaf (.cut 1 3 .leaf .leaf)) (.cut 1 5 .leaf (.cut 1 6 .leaf .leaf))) .leaf) .leaf)) .leaf) .leaf) .leaf)) .leaf)) .leaf))
def tv41T : Sp := .cut 8 2 tv42T tv43T
def tv39T : Sp := .cut 8 1 tv40T tv41T
noncomputable def tv44L : Lf := (tv38L.lo 7 3)
def tv44T : Sp := .leaf
def tv38T : Sp := .cut 7 3 tv39T tv44T
noncomputable def tv45L : Lf := (tv37L.lo 5 16)
def tv45T : Sp := .leaf
def tv37T : Sp := .cut 5 16 tv38T tv45T
def tv35T : Sp := .cut 5 0 tv36T tv37T
noncomputable def tv46L : Lf := (tv34L.lo 4 1)
def tv46T : Sp := .leaf
def tv34T : Sp := .cut 4 1 tv35T tv46T
def tv32T : Sp := .cut 4 0 tv33T tv34T
noncomputable def tv47L : Lf := (tv31L.lo 3 4)
def tv47T : Sp := .leaf
def tv31T : Sp := .cut 3 4 tv32T tv47T
def tv15T : Sp := .cut 3 3 tv16T tv31T
def tv7T : Sp := .cut 3 2 tv8T tv15T
def tv5T : Sp := .cut 3 1 tv6T tv7T
noncomputable def tv48L : Lf := (tv4L.lo 0 3)
noncomputable def tv49L : Lf := (tv48L.hi 0 (4 - 1))
noncomputable def tv50L : Lf := (tv49L.hi 3 (1 - 1))
def tv50T : Sp := .leaf
noncomputable def tv51L : Lf := (tv49L.lo 3 1)
noncomputable def tv52L : Lf := (tv51L.hi 3 (2 - 1))
def tv52T : Sp := (.conj [(5, 0), (6, 0), (7, 0)] (.cut 8 1 .leaf (.cut 8 2 (.conj [(10, 0), (11, 0), (12, 0)] (.conj [(13, 0), (14, 0), (15, 0)] (.cut 1 1 (.cut 2 1 .leaf .leaf) .leaf) .leaf) .leaf) (.cut 8 3 (.cut 9 0 .leaf (.cut 9 1 (.cut 10 0 .leaf (.cut 10 16 (.cut 12 3 (.conj [(13, 0), (14, 0), (15, 0)] (.cut 1 1 (.cut 2 1 .leaf .leaf) .leaf) .leaf) .leaf) .leaf)) .leaf)) (.cut 8 4 (.cut 9 0 .leaf (.cut 9 1 (.cut 10 0 .leaf (.cut 10 16 (.cut 12 3 (.conj [(13, 0), (14, 0), (15, 0)] (.cut 1 1 (.cut 2 1 .leaf .leaf) .leaf) .leaf) .leaf) .leaf)) .leaf)) .leaf)))) .leaf)
noncomputable def tv53L : Lf := (tv51L.lo 3 2)
noncomputable def tv54L : Lf := (tv53L.hi 3 (3 - 1))
def tv54T : Sp := (.cut 4 0 .leaf (.cut 4 1 (.cut 5 0 .leaf (.cut 5 16 (.cut 7 3 (.cut 8 1 .leaf (.cut 8 2 (.conj [(10, 0), (11, 0), (12, 0)] (.conj [(13, 0), (14, 0), (15, 0)] (.cut 1 1 (.cut 2 1 .leaf .leaf) .leaf) .leaf) .leaf) (.cut 8 3 (.cut 9 0 .leaf (.cut 9 1 (.cut 10 0 .leaf (.cut 10 16 (.cut 12 3 (.conj [(13, 0), (14, 0), (15, 0)] (.cut 1 1 (.cut 2 1 .leaf .leaf) .leaf) .leaf) .leaf) .leaf)) .leaf)) (.cut 8 4 (.cut 9 0 .leaf (.cut 9 1 (.cut 10 0 .leaf (.cut 10 16 (.cut 12 3 (.conj [(13, 0), (14, 0), (15, 0)] (.cut 1 1 (.cut 2 1 .leaf .leaf) .leaf) .leaf) .leaf) .leaf)) .leaf)) .leaf)))) .leaf) .leaf)) .leaf))
noncomputable def tv55L : Lf := (tv53L.lo 3 3)
def tv55T : Sp := (.cut 3 4 (.cut 4 0 .leaf (.cut 4 1 (.cut 5 0 .leaf (.cut 5 16 (.cut 7 3 (.cut 8 1 .leaf (.cut 8 2 (.conj [(10, 0), (11, 0), (12, 0)] (.conj [(13, 0), (14, 0), (15, 0)] (.cut 1 1 (.cut 2 1 .leaf .leaf) .leaf) .leaf) .leaf) (.cut 8 3 (.cut 9 0 .leaf (.cut 9 1 (.cut 10 0 .leaf (.cut 10 16 (.cut 12 3 (.conj [(13, 0), (14, 0), (15, 0)] (.cut 1 1 (.cut 2 1 .leaf .leaf) .leaf) .leaf) .leaf) .leaf)) .leaf)) (.cut 8 4 (.cut 9 0 .leaf (.cut 9 1 (.cut 10 0 .leaf (.cut 10 16 (.cut 12 3 (.conj [(13, 0), (14, 0), (15, 0)] (.cut 1 1 (.cut 2 1 .leaf .leaf) .leaf) .leaf) .leaf) .leaf)) .leaf)) .leaf)))) .leaf) .leaf)) .leaf)) .leaf)
def tv53T : Sp := .cut 3 3 tv54T tv55T
def tv51T : Sp := .cut 3 2 tv52T tv53T
def tv49T : Sp := .cut 3 1 tv50T tv51T
noncomputable def tv56L : Lf := (tv48L.lo 0 4)
def tv56T : Sp := (.cut 0 5 (.conj [(3, 0), (4, 0), (5, 0), (6, 0), (7, 0)] (.conj [(8, 0), (9, 0), (10, 0), (11, 0), (12, 0)] (.cut 13 0 .leaf (.cut 13 16 (.cut 15 3 (.cut 1 1 (.cut 2 1 .leaf (.cut 2 4 (.cut 2 2 .leaf (.cut 2 3 .leaf .leaf)) .leaf)) .leaf) .leaf) .leaf)) .leaf) .leaf) (.cut 0 6 (.conj [(3, 0), (4, 0), (5, 0), (6, 0), (7, 0)] (.conj [(8, 0), (9, 0), (10, 0), (11, 0), (12, 0)] (.cut 13 0 .leaf (.cut 13 16 (.cut 15 3 (.cut 1 1 (.cut 2 1 .leaf .leaf) .leaf) .leaf) .leaf)) .leaf) .leaf) .leaf))
def tv48T : Sp := .cut 0 4 tv49T tv56T
def tv4T : Sp := .cut 0 3 tv5T tv48T
def tv2T : Sp := .cut 0 2 tv3T tv4T
def tv0T : Sp := .cut 0 1 tv1T tv2T
noncomputable def goodT_trvA (L : Lf) : Bool := textAt (okRvE 0) kRv mS2 ((fun L xs => rvX kRv tvP L xs 0) L (cellsL kRv L)) L (runT 53 kRv tvP L)
theorem trvA_tv1 : (tv1T.leaves tv1L).all goodT_trvA = true := by kernel_rfl
theorem trvA_tv3 : (tv3T.leaves tv3L).all goodT_trvA = true := by kernel_rfl
theorem trvA_tv6 : (tv6T.leaves tv6L).all goodT_trvA = true := by kernel_rfl
theorem trvA_tv10 : (tv10T.leaves tv10L).all goodT_trvA = true := by kernel_rfl
theorem trvA_tv12 : (tv12T.leaves tv12L).all goodT_trvA = true := by kernel_rfl
theorem trvA_tv13 : (tv13T.leaves tv13L).all goodT_trvA = true := by kernel_rfl
theorem trvA_tv14 : (tv14T.leaves tv14L).all goodT_trvA = true := by kernel_rfl
theorem trvA_tv17 : (tv17T.leaves tv17L).all goodT_trvA = true := by kernel_rfl
theorem trvA_tv20 : (tv20T.leaves tv20L).all goodT_trvA = true := by kernel_rfl
theorem trvA_tv24 : (tv24T.leaves tv24L).all goodT_trvA = true := by kernel_rfl
theorem trvA_tv26 : (tv26T.leaves tv26L).all goodT_trvA = true := by kernel_rfl
theorem trvA_tv27 : (tv27T.leaves tv27L).all goodT_trvA = true := by kernel_rfl
theorem trvA_tv28 : (tv28T.leaves tv28L).all goodT_trvA = true := by kernel_rfl
theorem trvA_tv29 : (tv29T.leaves tv29L).all goodT_trvA = true := by kernel_rfl
theorem trvA_tv30 : (tv30T.leaves tv30L).all goodT_trvA = true := by kernel_rfl
theorem trvA_tv33 : (tv33T.leaves tv33L).all goodT_trvA = true := by kernel_rfl
theorem trvA_tv36 : (tv36T.leaves tv36L).all goodT_trvA = true := by kernel_rfl
theorem trvA_tv40 : (tv40T.leaves tv40L).all goodT_trvA = true := by kernel_rfl
theorem trvA_tv42 : (tv42T.leaves tv42L).all goodT_trvA = true := by kernel_rfl
theorem trvA_tv43 : (tv43T.leaves tv43L).all goodT_trvA = true := by kernel_rfl
theorem trvA_tv44 : (tv44T.leaves tv44L).all goodT_trvA = true := by kernel_rfl
theorem trvA_tv45 : (tv45T.leaves tv45L).all goodT_trvA = true := by kernel_rfl
theorem trvA_tv46 : (tv46T.leaves tv46L).all goodT_trvA = true := by kernel_rfl
theorem trvA_tv47 : (tv47T.leaves tv47L).all goodT_trvA = true := by kernel_rfl
theorem trvA_tv50 : (tv50T.leaves tv50L).all goodT_trvA = true := by kernel_rfl
theorem trvA_tv52 : (tv52T.leaves tv52L).all goodT_trvA = true := by kernel_rfl
theorem trvA_tv54 : (tv54T.leaves tv54L).all goodT_trvA = true := by kernel_rfl
theorem trvA_tv55 : (tv55T.leaves tv55L).all goodT_trvA = true := by kernel_rfl
theorem trvA_tv56 : (tv56T.leaves tv56L).all goodT_trvA = true := by kernel_rfl
theorem trvA_tv11 : (tv11T.leaves tv11L).all goodT_trvA = true := by
  have e : tv11T.leaves tv11L = tv12T.leaves tv12L ++ tv13T.leaves tv13L := rfl
  rw [e]
  simp only [List.all_append, trvA_tv12, trvA_tv13, Bool.and_self]
theorem trvA_tv9 : (tv9T.leaves tv9L).all goodT_trvA = true := by
  have e : tv9T.leaves tv9L = tv10T.leaves tv10L ++ tv11T.leaves tv11L := rfl
  rw [e]
  simp only [List.all_append, trvA_tv10, trvA_tv11, Bool.and_self]
theorem trvA_tv8 : (tv8T.leaves tv8L).all goodT_trvA = true := by
  have e : tv8T.leaves tv8L = tv9T.leaves tv9L ++ tv14T.leaves tv14L := rfl
  rw [e]
  simp only [List.all_append, trvA_tv9, trvA_tv14, Bool.and_self]
theorem trvA_tv25 : (tv25T.leaves tv25L).all goodT_trvA = true := by
  have e : tv25T.leaves tv25L = tv26T.leaves tv26L ++ tv27T.leaves tv27L := rfl
  rw [e]
  simp only [List.all_append, trvA_tv26, trvA_tv27, Bool.and_self]
theorem trvA_tv23 : (tv23T.leaves tv23L).all goodT_trvA = true := by
  have e : tv23T.leaves tv23L = tv24T.leaves tv24L ++ tv25T.leaves tv25L := rfl
  rw [e]
  simp only [List.all_append, trvA_tv24, trvA_tv25, Bool.and_self]
theorem trvA_tv22 : (tv22T.leaves tv22L).all goodT_trvA = true := by
  have e : tv22T.leaves tv22L = tv23T.leaves tv23L ++ tv28T.leaves tv28L := rfl
  rw [e]
  simp only [List.all_append, trvA_tv23, trvA_tv28, Bool.and_self]
theorem trvA_tv21 : (tv21T.leaves tv21L).all goodT_trvA = true := by
  have e : tv21T.leaves tv21L = tv22T.leaves tv22L ++ tv29T.leaves tv29L := rfl
  rw [e]
  simp only [List.all_append, trvA_tv22, trvA_tv29, Bool.and_self]
theorem trvA_tv19 : (tv19T.leaves tv19L).all goodT_trvA = true := by
  have e : tv19T.leaves tv19L = tv20T.leaves tv20L ++ tv21T.leaves tv21L := rfl
  rw [e]
  simp only [List.all_append, trvA_tv20, trvA_tv21, Bool.and_self]
theorem trvA_tv18 : (tv18T.leaves tv18L).all goodT_trvA = true := by
  have e : tv18T.leaves tv18L = tv19T.leaves tv19L ++ tv30T.leaves tv30L := rfl
  rw [e]
  simp only [List.all_append, trvA_tv19, trvA_tv30, Bool.and_self]
theorem trvA_tv16 : (tv16T.leaves tv16L).all goodT_trvA = true := by
  have e : tv16T.leaves tv16L = tv17T.leaves tv17L ++ tv18T.leaves tv18L := rfl
  rw [e]
  simp only [List.all_append, trvA_tv17, trvA_tv18, Bool.and_self]
theorem trvA_tv41 : (tv41T.leaves tv41L).all goodT_trvA = true := by
  have e : tv41T.leaves tv41L = tv42T.leaves tv42L ++ tv43T.leaves tv43L := rfl
  rw [e]
  simp only [List.all_append, trvA_tv42, trvA_tv43, Bool.and_self]
theorem trvA_tv39 : (tv39T.leaves tv39L).all goodT_trvA = true := by
  have e : tv39T.leaves tv39L = tv40T.leaves tv40L ++ tv41T.leaves tv41L := rfl
  rw [e]
  simp only [List.all_append, trvA_tv40, trvA_tv41, Bool.and_self]
theorem trvA_tv38 : (tv38T.leaves tv38L).all goodT_trvA = true := by
  have e : tv38T.leaves tv38L = tv39T.leaves tv39L ++ tv44T.leaves tv44L := rfl
  rw [e]
  simp only [List.all_append, trvA_tv39, trvA_tv44, Bool.and_self]
theorem trvA_tv37 : (tv37T.leaves tv37L).all goodT_trvA = true := by
  have e : tv37T.leaves tv37L = tv38T.leaves tv38L ++ tv45T.leaves tv45L := rfl
  rw [e]
  simp only [List.all_append, trvA_tv38, trvA_tv45, Bool.and_self]
theorem trvA_tv35 : (tv35T.leaves tv35L).all goodT_trvA = true := by
  have e : tv35T.leaves tv35L = tv36T.leaves tv36L ++ tv37T.leaves tv37L := rfl
  rw [e]
  simp only [List.all_append, trvA_tv36, trvA_tv37, Bool.and_self]
theorem trvA_tv34 : (tv34T.leaves tv34L).all goodT_trvA = true := by
  have e : tv34T.leaves tv34L = tv35T.leaves tv35L ++ tv46T.leaves tv46L := rfl
  rw [e]
  simp only [List.all_append, trvA_tv35, trvA_tv46, Bool.and_self]
theorem trvA_tv32 : (tv32T.leaves tv32L).all goodT_trvA = true := by
  have e : tv32T.leaves tv32L = tv33T.leaves tv33L ++ tv34T.leaves tv34L := rfl
  rw [e]
  simp only [List.all_append, trvA_tv33, trvA_tv34, Bool.and_self]
theorem trvA_tv31 : (tv31T.leaves tv31L).all goodT_trvA = true := by
  have e : tv31T.leaves tv31L = tv32T.leaves tv32L ++ tv47T.leaves tv47L := rfl
  rw [e]
  simp only [List.all_append, trvA_tv32, trvA_tv47, Bool.and_self]
theorem trvA_tv15 : (tv15T.leaves tv15L).all goodT_trvA = true := by
  have e : tv15T.leaves tv15L = tv16T.leaves tv16L ++ tv31T.leaves tv31L := rfl
  rw [e]
  simp only [List.all_append, trvA_tv16, trvA_tv31, Bool.and_self]
theorem trvA_tv7 : (tv7T.leaves tv7L).all goodT_trvA = true := by
  have e : tv7T.leaves tv7L = tv8T.leaves tv8L ++ tv15T.leaves tv15L := rfl
  rw [e]
  simp only [List.all_append, trvA_tv8, trvA_tv15, Bool.and_self]
theorem trvA_tv5 : (tv5T.leaves tv5L).all goodT_trvA = true := by
  have e : tv5T.leaves tv5L = tv6T.leaves tv6L ++ tv7T.leaves tv7L := rfl
  rw [e]
  simp only [List.all_append, trvA_tv6, trvA_tv7, Bool.and_self]
theorem trvA_tv53 : (tv53T.leaves tv53L).all goodT_trvA = true := by
  have e : tv53T.leaves tv53L = tv54T.leaves tv54L ++ tv55T.leaves tv55L := rfl
  rw [e]
  simp only [List.all_append, trvA_tv54, trvA_tv55, Bool.and_self]
theorem trvA_tv51 : (tv51T.leaves tv51L).all goodT_trvA = true := by
  have e : tv51T.leaves tv51L = tv52T.leaves tv52L ++ tv53T.leaves tv53L := rfl
  rw [e]
  simp only [List.all_append, trvA_tv52, trvA_tv53, Bool.and_self]
theorem trvA_tv49 : (tv49T.leaves tv49L).all goodT_trvA = true := by
  have e : tv49T.leaves tv49L = tv50T.leaves tv50L ++ tv51T.leaves tv51L := rfl
  rw [e]
  simp only [List.all_append, trvA_tv50, trvA_tv51, Bool.and_self]
theorem trvA_tv48 : (tv48T.leaves tv48L).all goodT_trvA = true := by
  have e : tv48T.leaves tv48L = tv49T.leaves tv49L ++ tv56T.leaves tv56L := rfl
  rw [e]
  simp only [List.all_append, trvA_tv49, trvA_tv56, Bool.and_self]
theorem trvA_tv4 : (tv4T.leaves tv4L).all goodT_trvA = true := by
  have e : tv4T.leaves tv4L = tv5T.leaves tv5L ++ tv48T.leaves tv48L := rfl
  rw [e]
  simp only [List.all_append, trvA_tv5, trvA_tv48, Bool.and_self]
theorem trvA_tv2 : (tv2T.leaves tv2L).all goodT_trvA = true := by
  have e : tv2T.leaves tv2L = tv3T.leaves tv3L ++ tv4T.leaves tv4L := rfl
  rw [e]
  simp only [List.all_append, trvA_tv3, trvA_tv4, Bool.and_self]
theorem trvA_tv0 : (tv0T.leaves tv0L).all goodT_trvA = true := by
  have e : tv0T.leaves tv0L = tv1T.leaves tv1L ++ tv2T.leaves tv2L := rfl
  rw [e]
  simp only [List.all_append, trvA_tv1, trvA_tv2, Bool.and_self]
theorem trvA_texts : Texts Tryd.prog TabOk 53 kRv (okRvE 0) (fun us => rvT (rvAt us 0)) vS2 := texts_of mS2_ok (pls := tvP) (fun L xs => (fun L xs => rvX kRv tvP L xs 0) L xs) (fun b0 L r xs us l hL d e ha h => @rvX_ok b0 r L kRv tvP xs us hL d e ha 0 l h) (by kernel_rfl) (sp := tv0T) trvA_tv0
noncomputable def goodT_trvB (L : Lf) : Bool := textAt (okRvE 0) kRv mS1 ((fun L xs => rvX kRv tvP L xs 0) L (cellsL kRv L)) L (runT 109 kRv tvP L)
theorem trvB_tv1 : (tv1T.leaves tv1L).all goodT_trvB = true := by kernel_rfl
theorem trvB_tv3 : (tv3T.leaves tv3L).all goodT_trvB = true := by kernel_rfl
theorem trvB_tv6 : (tv6T.leaves tv6L).all goodT_trvB = true := by kernel_rfl
theorem trvB_tv10 : (tv10T.leaves tv10L).all goodT_trvB = true := by kernel_rfl
theorem trvB_tv12 : (tv12T.leaves tv12L).all goodT_trvB = true := by kernel_rfl
theorem trvB_tv13 : (tv13T.leaves tv13L).all goodT_trvB = true := by kernel_rfl
theorem trvB_tv14 : (tv14T.leaves tv14L).all goodT_trvB = true := by kernel_rfl
theorem trvB_tv17 : (tv17T.leaves tv17L).all goodT_trvB = true := by kernel_rfl
theorem trvB_tv20 : (tv20T.leaves tv20L).all goodT_trvB = true := by kernel_rfl
theorem trvB_tv24 : (tv24T.leaves tv24L).all goodT_trvB = true := by kernel_rfl
theorem trvB_tv26 : (tv26T.leaves tv26L).all goodT_trvB = true := by kernel_rfl
theorem trvB_tv27 : (tv27T.leaves tv27L).all goodT_trvB = true := by kernel_rfl
theorem trvB_tv28 : (tv28T.leaves tv28L).all goodT_trvB = true := by kernel_rfl
theorem trvB_tv29 : (tv29T.leaves tv29L).all goodT_trvB = true := by kernel_rfl
theorem trvB_tv30 : (tv30T.leaves tv30L).all goodT_trvB = true := by kernel_rfl
theorem trvB_tv33 : (tv33T.leaves tv33L).all goodT_trvB = true := by kernel_rfl
theorem trvB_tv36 : (tv36T.leaves tv36L).all goodT_trvB = true := by kernel_rfl
theorem trvB_tv40 : (tv40T.leaves tv40L).all goodT_trvB = true := by kernel_rfl
theorem trvB_tv42 : (tv42T.leaves tv42L).all goodT_trvB = true := by kernel_rfl
theorem trvB_tv43 : (tv43T.leaves tv43L).all goodT_trvB = true := by kernel_rfl
theorem trvB_tv44 : (tv44T.leaves tv44L).all goodT_trvB = true := by kernel_rfl
theorem trvB_tv45 : (tv45T.leaves tv45L).all goodT_trvB = true := by kernel_rfl
theorem trvB_tv46 : (tv46T.leaves tv46L).all goodT_trvB = true := by kernel_rfl
theorem trvB_tv47 : (tv47T.leaves tv47L).all goodT_trvB = true := by kernel_rfl
theorem trvB_tv50 : (tv50T.leaves tv50L).all goodT_trvB = true := by kernel_rfl
theorem trvB_tv52 : (tv52T.leaves tv52L).all goodT_trvB = true := by kernel_rfl
theorem trvB_tv54 : (tv54T.leaves tv54L).all goodT_trvB = true := by kernel_rfl
theorem trvB_tv55 : (tv55T.leaves tv55L).all goodT_trvB = true := by kernel_rfl
theorem trvB_tv56 : (tv56T.leaves tv56L).all goodT_trvB = true := by kernel_rfl
theorem trvB_tv11 : (tv11T.leaves tv11L).all goodT_trvB = true := by
  have e : tv11T.leaves tv11L = tv12T.leaves tv12L ++ tv13T.leaves tv13L := rfl
  rw [e]
  simp only [List.all_append, trvB_tv12, trvB_tv13, Bool.and_self]
theorem trvB_tv9 : (tv9T.leaves tv9L).all goodT_trvB = true := by
  have e : tv9T.leaves tv9L = tv10T.leaves tv10L ++ tv11T.leaves tv11L := rfl
  rw [e]
  simp only [List.all_append, trvB_tv10, trvB_tv11, Bool.and_self]
theorem trvB_tv8 : (tv8T.leaves tv8L).all goodT_trvB = true := by
  have e : tv8T.leaves tv8L = tv9T.leaves tv9L ++ tv14T.leaves tv14L := rfl
  rw [e]
  simp only [List.all_append, trvB_tv9, trvB_tv14, Bool.and_self]
theorem trvB_tv25 : (tv25T.leaves tv25L).all goodT_trvB = true := by
  have e : tv25T.leaves tv25L = tv26T.leaves tv26L ++ tv27T.leaves tv27L := rfl
  rw [e]
  simp only [List.all_append, trvB_tv26, trvB_tv27, Bool.and_self]
theorem trvB_tv23 : (tv23T.leaves tv23L).all goodT_trvB = true := by
  have e : tv23T.leaves tv23L = tv24T.leaves tv24L ++ tv25T.leaves tv25L := rfl
  rw [e]
  simp only [List.all_append, trvB_tv24, trvB_tv25, Bool.and_self]
theorem trvB_tv22 : (tv22T.leaves tv22L).all goodT_trvB = true := by
  have e : tv22T.leaves tv22L = tv23T.leaves tv23L ++ tv28T.leaves tv28L := rfl
  rw [e]
  simp only [List.all_append, trvB_tv23, trvB_tv28, Bool.and_self]
theorem trvB_tv21 : (tv21T.leaves tv21L).all goodT_trvB = true := by
  have e : tv21T.leaves tv21L = tv22T.leaves tv22L ++ tv29T.leaves tv29L := rfl
  rw [e]
  simp only [List.all_append, trvB_tv22, trvB_tv29, Bool.and_self]
theorem trvB_tv19 : (tv19T.leaves tv19L).all goodT_trvB = true := by
  have e : tv19T.leaves tv19L = tv20T.leaves tv20L ++ tv21T.leaves tv21L := rfl
  rw [e]
  simp only [List.all_append, trvB_tv20, trvB_tv21, Bool.and_self]
theorem trvB_tv18 : (tv18T.leaves tv18L).all goodT_trvB = true := by
  have e : tv18T.leaves tv18L = tv19T.leaves tv19L ++ tv30T.leaves tv30L := rfl
  rw [e]
  simp only [List.all_append, trvB_tv19, trvB_tv30, Bool.and_self]
theorem trvB_tv16 : (tv16T.leaves tv16L).all goodT_trvB = true := by
  have e : tv16T.leaves tv16L = tv17T.leaves tv17L ++ tv18T.leaves tv18L := rfl
  rw [e]
  simp only [List.all_append, trvB_tv17, trvB_tv18, Bool.and_self]
theorem trvB_tv41 : (tv41T.leaves tv41L).all goodT_trvB = true := by
  have e : tv41T.leaves tv41L = tv42T.leaves tv42L ++ tv43T.leaves tv43L := rfl
  rw [e]
  simp only [List.all_append, trvB_tv42, trvB_tv43, Bool.and_self]
theorem trvB_tv39 : (tv39T.leaves tv39L).all goodT_trvB = true := by
  have e : tv39T.leaves tv39L = tv40T.leaves tv40L ++ tv41T.leaves tv41L := rfl
  rw [e]
  simp only [List.all_append, trvB_tv40, trvB_tv41, Bool.and_self]
theorem trvB_tv38 : (tv38T.leaves tv38L).all goodT_trvB = true := by
  have e : tv38T.leaves tv38L = tv39T.leaves tv39L ++ tv44T.leaves tv44L := rfl
  rw [e]
  simp only [List.all_append, trvB_tv39, trvB_tv44, Bool.and_self]
theorem trvB_tv37 : (tv37T.leaves tv37L).all goodT_trvB = true := by
  have e : tv37T.leaves tv37L = tv38T.leaves tv38L ++ tv45T.leaves tv45L := rfl
  rw [e]
  simp only [List.all_append, trvB_tv38, trvB_tv45, Bool.and_self]
theorem trvB_tv35 : (tv35T.leaves tv35L).all goodT_trvB = true := by
  have e : tv35T.leaves tv35L = tv36T.leaves tv36L ++ tv37T.leaves tv37L := rfl
  rw [e]
  simp only [List.all_append, trvB_tv36, trvB_tv37, Bool.and_self]
theorem trvB_tv34 : (tv34T.leaves tv34L).all goodT_trvB = true := by
  have e : tv34T.leaves tv34L = tv35T.leaves tv35L ++ tv46T.leaves tv46L := rfl
  rw [e]
  simp only [List.all_append, trvB_tv35, trvB_tv46, Bool.and_self]
theorem trvB_tv32 : (tv32T.leaves tv32L).all goodT_trvB = true := by
  have e : tv32T.leaves tv32L = tv33T.leaves tv33L ++ tv34T.leaves tv34L := rfl
  rw [e]
  simp only [List.all_append, trvB_tv33, trvB_tv34, Bool.and_self]
theorem trvB_tv31 : (tv31T.leaves tv31L).all goodT_trvB = true := by
  have e : tv31T.leaves tv31L = tv32T.leaves tv32L ++ tv47T.leaves tv47L := rfl
  rw [e]
  simp only [List.all_append, trvB_tv32, trvB_tv47, Bool.and_self]
theorem trvB_tv15 : (tv15T.leaves tv15L).all goodT_trvB = true := by
  have e : tv15T.leaves tv15L = tv16T.leaves tv16L ++ tv31T.leaves tv31L := rfl
  rw [e]
  simp only [List.all_append, trvB_tv16, trvB_tv31, Bool.and_self]
theorem trvB_tv7 : (tv7T.leaves tv7L).all goodT_trvB = true := by
  have e : tv7T.leaves tv7L = tv8T.leaves tv8L ++ tv15T.leaves tv15L := rfl
  rw [e]
  simp only [List.all_append, trvB_tv8, trvB_tv15, Bool.and_self]
theorem trvB_tv5 : (tv5T.leaves tv5L).all goodT_trvB = true := by
  have e : tv5T.leaves tv5L = tv6T.leaves tv6L ++ tv7T.leaves tv7L := rfl
  rw [e]
  simp only [List.all_append, trvB_tv6, trvB_tv7, Bool.and_self]
theorem trvB_tv53 : (tv53T.leaves tv53L).all goodT_trvB = true := by
  have e : tv53T.leaves tv53L = tv54T.leaves tv54L ++ tv55T.leaves tv55L := rfl
  rw [e]
  simp only [List.all_append, trvB_tv54, trvB_tv55, Bool.and_self]
theorem trvB_tv51 : (tv51T.leaves tv51L).all goodT_trvB = true := by
  have e : tv51T.leaves tv51L = tv52T.leaves tv52L ++ tv53T.leaves tv53L := rfl
  rw [e]
  simp only [List.all_append, trvB_tv52, trvB_tv53, Bool.and_self]
theorem trvB_tv49 : (tv49T.leaves tv49L).all goodT_trvB = true := by
  have e : tv49T.leaves tv49L = tv50T.leaves tv50L ++ tv51T.leaves tv51L := rfl
  rw [e]
  simp only [List.all_append, trvB_tv50, trvB_tv51, Bool.and_self]
theorem trvB_tv48 : (tv48T.leaves tv48L).all goodT_trvB = true := by
  have e : tv48T.leaves tv48L = tv49T.leaves tv49L ++ tv56T.leaves tv56L := rfl
  rw [e]
  simp only [List.all_append, trvB_tv49, trvB_tv56, Bool.and_self]
theorem trvB_tv4 : (tv4T.leaves tv4L).all goodT_trvB = true := by
  have e : tv4T.leaves tv4L = tv5T.leaves tv5L ++ tv48T.leaves tv48L := rfl
  rw [e]
  simp only [List.all_append, trvB_tv5, trvB_tv48, Bool.and_self]
theorem trvB_tv2 : (tv2T.leaves tv2L).all goodT_trvB = true := by
  have e : tv2T.leaves tv2L = tv3T.leaves tv3L ++ tv4T.leaves tv4L := rfl
  rw [e]
  simp only [List.all_append, trvB_tv3, trvB_tv4, Bool.and_self]
theorem trvB_tv0 : (tv0T.leaves tv0L).all goodT_trvB = true := by
  have e : tv0T.leaves tv0L = tv1T.leaves tv1L ++ tv2T.leaves tv2L := rfl
  rw [e]
  simp only [List.all_append, trvB_tv1, trvB_tv2, Bool.and_self]
theorem trvB_texts : Texts Tryd.prog TabOk 109 kRv (okRvE 0) (fun us => rvT (rvAt us 0)) vS1 := texts_of mS1_ok (pls := tvP) (fun L xs => (fun L xs => rvX kRv tvP L xs 0) L xs) (fun b0 L r xs us l hL d e ha h => @rvX_ok b0 r L kRv tvP xs us hL d e ha 0 l h) (by kernel_rfl) (sp := tv0T) trvB_tv0
end Go.Proofs.YtaamdiknefodgaaDoor.Am
