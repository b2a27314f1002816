/- stmt.Text: the texts of statements. -/
import Derived.Test.YtaamdiknefodgaaDoorTexts5C
namespace Go.Proofs.YtaamdiknefodgaaDoor.Am
open Go.RowKit
set_option maxRecDepth 100000
theorem tstA_ts1 : (ts1T.leaves ts1L).all goodT_tstA = true := by kernel_rfl
theorem tstA_ts4 : (ts4T.leaves ts4L).all goodT_tstA = true := by kernel_rfl
theorem tstA_ts8 : (ts8T.leaves ts8L).all goodT_tstA = true := by kernel_rfl
theorem tstA_ts10 : (ts10T.leaves ts10L).all goodT_tstA = true := by kernel_rfl
theorem tstA_ts13 : (ts13T.leaves ts13L).all goodT_tstA = true := by kernel_rfl
theorem tstA_ts17 : (ts17T.leaves ts17L).all goodT_tstA = true := by kernel_rfl
theorem tstA_ts19 : (ts19T.leaves ts19L).all goodT_tstA = true := by kernel_rfl
theorem tstA_ts20 : (ts20T.leaves ts20L).all goodT_tstA = true := by kernel_rfl
theorem tstA_ts21 : (ts21T.leaves ts21L).all goodT_tstA = true := by kernel_rfl
theorem tstA_ts24 : (ts24T.leaves ts24L).all goodT_tstA = true := by kernel_rfl
theorem tstA_ts27 : (ts27T.leaves ts27L).all goodT_tstA = true := by kernel_rfl
theorem tstA_ts31 : (ts31T.leaves ts31L).all goodT_tstA = true := by kernel_rfl
theorem tstA_ts33 : (ts33T.leaves ts33L).all goodT_tstA = true := by kernel_rfl
theorem tstA_ts34 : (ts34T.leaves ts34L).all goodT_tstA = true := by kernel_rfl
theorem tstA_ts35 : (ts35T.leaves ts35L).all goodT_tstA = true := by kernel_rfl
theorem tstA_ts36 : (ts36T.leaves ts36L).all goodT_tstA = true := by kernel_rfl
theorem tstA_ts37 : (ts37T.leaves ts37L).all goodT_tstA = true := by kernel_rfl
theorem tstA_ts40 : (ts40T.leaves ts40L).all goodT_tstA = true := by kernel_rfl
theorem tstA_ts43 : (ts43T.leaves ts43L).all goodT_tstA = true := by kernel_rfl
theorem tstA_ts47 : (ts47T.leaves ts47L).all goodT_tstA = true := by kernel_rfl
theorem tstA_ts49 : (ts49T.leaves ts49L).all goodT_tstA = true := by kernel_rfl
theorem tstA_ts50 : (ts50T.leaves ts50L).all goodT_tstA = true := by kernel_rfl
theorem tstA_ts51 : (ts51T.leaves ts51L).all goodT_tstA = true := by kernel_rfl
theorem tstA_ts52 : (ts52T.leaves ts52L).all goodT_tstA = true := by kernel_rfl
theorem tstA_ts53 : (ts53T.leaves ts53L).all goodT_tstA = true := by kernel_rfl
theorem tstA_ts54 : (ts54T.leaves ts54L).all goodT_tstA = true := by kernel_rfl
theorem tstA_ts57 : (ts57T.leaves ts57L).all goodT_tstA = true := by kernel_rfl
theorem tstA_ts59 : (ts59T.leaves ts59L).all goodT_tstA = true := by kernel_rfl
theorem tstA_ts61 : (ts61T.leaves ts61L).all goodT_tstA = true := by kernel_rfl
theorem tstA_ts62 : (ts62T.leaves ts62L).all goodT_tstA = true := by kernel_rfl
theorem tstA_ts63 : (ts63T.leaves ts63L).all goodT_tstA = true := by kernel_rfl
theorem tstA_ts64 : (ts64T.leaves ts64L).all goodT_tstA = true := by kernel_rfl
theorem tstA_ts65 : (ts65T.leaves ts65L).all goodT_tstA = true := by kernel_rfl
theorem tstA_ts67 : (ts67T.leaves ts67L).all goodT_tstA = true := by kernel_rfl
theorem tstA_ts69 : (ts69T.leaves ts69L).all goodT_tstA = true := by kernel_rfl
theorem tstA_ts70 : (ts70T.leaves ts70L).all goodT_tstA = true := by kernel_rfl
theorem tstA_ts18 : (ts18T.leaves ts18L).all goodT_tstA = true := by
  have e : ts18T.leaves ts18L = ts19T.leaves ts19L ++ ts20T.leaves ts20L := rfl
  rw [e]
  simp only [List.all_append, tstA_ts19, tstA_ts20, Bool.and_self]
theorem tstA_ts16 : (ts16T.leaves ts16L).all goodT_tstA = true := by
  have e : ts16T.leaves ts16L = ts17T.leaves ts17L ++ ts18T.leaves ts18L := rfl
  rw [e]
  simp only [List.all_append, tstA_ts17, tstA_ts18, Bool.and_self]
theorem tstA_ts15 : (ts15T.leaves ts15L).all goodT_tstA = true := by
  have e : ts15T.leaves ts15L = ts16T.leaves ts16L ++ ts21T.leaves ts21L := rfl
  rw [e]
  simp only [List.all_append, tstA_ts16, tstA_ts21, Bool.and_self]
theorem tstA_ts32 : (ts32T.leaves ts32L).all goodT_tstA = true := by
  have e : ts32T.leaves ts32L = ts33T.leaves ts33L ++ ts34T.leaves ts34L := rfl
  rw [e]
  simp only [List.all_append, tstA_ts33, tstA_ts34, Bool.and_self]
theorem tstA_ts30 : (ts30T.leaves ts30L).all goodT_tstA = true := by
  have e : ts30T.leaves ts30L = ts31T.leaves ts31L ++ ts32T.leaves ts32L := rfl
  rw [e]
  simp only [List.all_append, tstA_ts31, tstA_ts32, Bool.and_self]
theorem tstA_ts29 : (ts29T.leaves ts29L).all goodT_tstA = true := by
  have e : ts29T.leaves ts29L = ts30T.leaves ts30L ++ ts35T.leaves ts35L := rfl
  rw [e]
  simp only [List.all_append, tstA_ts30, tstA_ts35, Bool.and_self]
theorem tstA_ts28 : (ts28T.leaves ts28L).all goodT_tstA = true := by
  have e : ts28T.leaves ts28L = ts29T.leaves ts29L ++ ts36T.leaves ts36L := rfl
  rw [e]
  simp only [List.all_append, tstA_ts29, tstA_ts36, Bool.and_self]
theorem tstA_ts26 : (ts26T.leaves ts26L).all goodT_tstA = true := by
  have e : ts26T.leaves ts26L = ts27T.leaves ts27L ++ ts28T.leaves ts28L := rfl
  rw [e]
  simp only [List.all_append, tstA_ts27, tstA_ts28, Bool.and_self]
theorem tstA_ts25 : (ts25T.leaves ts25L).all goodT_tstA = true := by
  have e : ts25T.leaves ts25L = ts26T.leaves ts26L ++ ts37T.leaves ts37L := rfl
  rw [e]
  simp only [List.all_append, tstA_ts26, tstA_ts37, Bool.and_self]
theorem tstA_ts23 : (ts23T.leaves ts23L).all goodT_tstA = true := by
  have e : ts23T.leaves ts23L = ts24T.leaves ts24L ++ ts25T.leaves ts25L := rfl
  rw [e]
  simp only [List.all_append, tstA_ts24, tstA_ts25, Bool.and_self]
theorem tstA_ts48 : (ts48T.leaves ts48L).all goodT_tstA = true := by
  have e : ts48T.leaves ts48L = ts49T.leaves ts49L ++ ts50T.leaves ts50L := rfl
  rw [e]
  simp only [List.all_append, tstA_ts49, tstA_ts50, Bool.and_self]
theorem tstA_ts46 : (ts46T.leaves ts46L).all goodT_tstA = true := by
  have e : ts46T.leaves ts46L = ts47T.leaves ts47L ++ ts48T.leaves ts48L := rfl
  rw [e]
  simp only [List.all_append, tstA_ts47, tstA_ts48, Bool.and_self]
theorem tstA_ts45 : (ts45T.leaves ts45L).all goodT_tstA = true := by
  have e : ts45T.leaves ts45L = ts46T.leaves ts46L ++ ts51T.leaves ts51L := rfl
  rw [e]
  simp only [List.all_append, tstA_ts46, tstA_ts51, Bool.and_self]
theorem tstA_ts44 : (ts44T.leaves ts44L).all goodT_tstA = true := by
  have e : ts44T.leaves ts44L = ts45T.leaves ts45L ++ ts52T.leaves ts52L := rfl
  rw [e]
  simp only [List.all_append, tstA_ts45, tstA_ts52, Bool.and_self]
theorem tstA_ts42 : (ts42T.leaves ts42L).all goodT_tstA = true := by
  have e : ts42T.leaves ts42L = ts43T.leaves ts43L ++ ts44T.leaves ts44L := rfl
  rw [e]
  simp only [List.all_append, tstA_ts43, tstA_ts44, Bool.and_self]
theorem tstA_ts41 : (ts41T.leaves ts41L).all goodT_tstA = true := by
  have e : ts41T.leaves ts41L = ts42T.leaves ts42L ++ ts53T.leaves ts53L := rfl
  rw [e]
  simp only [List.all_append, tstA_ts42, tstA_ts53, Bool.and_self]
theorem tstA_ts39 : (ts39T.leaves ts39L).all goodT_tstA = true := by
  have e : ts39T.leaves ts39L = ts40T.leaves ts40L ++ ts41T.leaves ts41L := rfl
  rw [e]
  simp only [List.all_append, tstA_ts40, tstA_ts41, Bool.and_self]
theorem tstA_ts38 : (ts38T.leaves ts38L).all goodT_tstA = true := by
  have e : ts38T.leaves ts38L = ts39T.leaves ts39L ++ ts54T.leaves ts54L := rfl
  rw [e]
  simp only [List.all_append, tstA_ts39, tstA_ts54, Bool.and_self]
theorem tstA_ts22 : (ts22T.leaves ts22L).all goodT_tstA = true := by
  have e : ts22T.leaves ts22L = ts23T.leaves ts23L ++ ts38T.leaves ts38L := rfl
  rw [e]
  simp only [List.all_append, tstA_ts23, tstA_ts38, Bool.and_self]
theorem tstA_ts14 : (ts14T.leaves ts14L).all goodT_tstA = true := by
  have e : ts14T.leaves ts14L = ts15T.leaves ts15L ++ ts22T.leaves ts22L := rfl
  rw [e]
  simp only [List.all_append, tstA_ts15, tstA_ts22, Bool.and_self]
theorem tstA_ts12 : (ts12T.leaves ts12L).all goodT_tstA = true := by
  have e : ts12T.leaves ts12L = ts13T.leaves ts13L ++ ts14T.leaves ts14L := rfl
  rw [e]
  simp only [List.all_append, tstA_ts13, tstA_ts14, Bool.and_self]
theorem tstA_ts60 : (ts60T.leaves ts60L).all goodT_tstA = true := by
  have e : ts60T.leaves ts60L = ts61T.leaves ts61L ++ ts62T.leaves ts62L := rfl
  rw [e]
  simp only [List.all_append, tstA_ts61, tstA_ts62, Bool.and_self]
theorem tstA_ts58 : (ts58T.leaves ts58L).all goodT_tstA = true := by
  have e : ts58T.leaves ts58L = ts59T.leaves ts59L ++ ts60T.leaves ts60L := rfl
  rw [e]
  simp only [List.all_append, tstA_ts59, tstA_ts60, Bool.and_self]
theorem tstA_ts56 : (ts56T.leaves ts56L).all goodT_tstA = true := by
  have e : ts56T.leaves ts56L = ts57T.leaves ts57L ++ ts58T.leaves ts58L := rfl
  rw [e]
  simp only [List.all_append, tstA_ts57, tstA_ts58, Bool.and_self]
theorem tstA_ts55 : (ts55T.leaves ts55L).all goodT_tstA = true := by
  have e : ts55T.leaves ts55L = ts56T.leaves ts56L ++ ts63T.leaves ts63L := rfl
  rw [e]
  simp only [List.all_append, tstA_ts56, tstA_ts63, Bool.and_self]
theorem tstA_ts11 : (ts11T.leaves ts11L).all goodT_tstA = true := by
  have e : ts11T.leaves ts11L = ts12T.leaves ts12L ++ ts55T.leaves ts55L := rfl
  rw [e]
  simp only [List.all_append, tstA_ts12, tstA_ts55, Bool.and_self]
theorem tstA_ts9 : (ts9T.leaves ts9L).all goodT_tstA = true := by
  have e : ts9T.leaves ts9L = ts10T.leaves ts10L ++ ts11T.leaves ts11L := rfl
  rw [e]
  simp only [List.all_append, tstA_ts10, tstA_ts11, Bool.and_self]
theorem tstA_ts7 : (ts7T.leaves ts7L).all goodT_tstA = true := by
  have e : ts7T.leaves ts7L = ts8T.leaves ts8L ++ ts9T.leaves ts9L := rfl
  rw [e]
  simp only [List.all_append, tstA_ts8, tstA_ts9, Bool.and_self]
theorem tstA_ts6 : (ts6T.leaves ts6L).all goodT_tstA = true := by
  have e : ts6T.leaves ts6L = ts7T.leaves ts7L ++ ts64T.leaves ts64L := rfl
  rw [e]
  simp only [List.all_append, tstA_ts7, tstA_ts64, Bool.and_self]
theorem tstA_ts5 : (ts5T.leaves ts5L).all goodT_tstA = true := by
  have e : ts5T.leaves ts5L = ts6T.leaves ts6L ++ ts65T.leaves ts65L := rfl
  rw [e]
  simp only [List.all_append, tstA_ts6, tstA_ts65, Bool.and_self]
theorem tstA_ts3 : (ts3T.leaves ts3L).all goodT_tstA = true := by
  have e : ts3T.leaves ts3L = ts4T.leaves ts4L ++ ts5T.leaves ts5L := rfl
  rw [e]
  simp only [List.all_append, tstA_ts4, tstA_ts5, Bool.and_self]
theorem tstA_ts68 : (ts68T.leaves ts68L).all goodT_tstA = true := by
  have e : ts68T.leaves ts68L = ts69T.leaves ts69L ++ ts70T.leaves ts70L := rfl
  rw [e]
  simp only [List.all_append, tstA_ts69, tstA_ts70, Bool.and_self]
theorem tstA_ts66 : (ts66T.leaves ts66L).all goodT_tstA = true := by
  have e : ts66T.leaves ts66L = ts67T.leaves ts67L ++ ts68T.leaves ts68L := rfl
  rw [e]
  simp only [List.all_append, tstA_ts67, tstA_ts68, Bool.and_self]
theorem tstA_ts2 : (ts2T.leaves ts2L).all goodT_tstA = true := by
  have e : ts2T.leaves ts2L = ts3T.leaves ts3L ++ ts66T.leaves ts66L := rfl
  rw [e]
  simp only [List.all_append, tstA_ts3, tstA_ts66, Bool.and_self]
theorem tstA_ts0 : (ts0T.leaves ts0L).all goodT_tstA = true := by
  have e : ts0T.leaves ts0L = ts1T.leaves ts1L ++ ts2T.leaves ts2L := rfl
  rw [e]
  simp only [List.all_append, tstA_ts1, tstA_ts2, Bool.and_self]
theorem tstA_texts : Texts Tryd.prog TabOk 44 kSt okStE (fun us => stT (stOf us)) vS2 := texts_ofS mS2_ok (pls := tsP) (fun L xs => stX true kSt tsP L xs) (fun b0 L r xs us l hL d e ha h => @stX_ok b0 r L kSt tsP xs us hL d e ha _ l h) (by kernel_rfl) (sp := ts0T) tstA_ts0
end Go.Proofs.YtaamdiknefodgaaDoor.Am
