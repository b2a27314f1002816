/- stmt.Moves: the lists of statements. -/
import Derived.Test.YtnhnelgkcldkbaaGreatDoorLists5MC
namespace Go.Proofs.YtnhnelgkcldkbaaGreatDoor.Am
open Go.RowKit
set_option maxRecDepth 100000
theorem tmvA_tm1 : (tm1T.leaves tm1L).all goodL_tmvA = true := by kernel_rfl
theorem tmvA_tm4 : (tm4T.leaves tm4L).all goodL_tmvA = true := by kernel_rfl
theorem tmvA_tm8 : (tm8T.leaves tm8L).all goodL_tmvA = true := by kernel_rfl
theorem tmvA_tm11 : (tm11T.leaves tm11L).all goodL_tmvA = true := by kernel_rfl
theorem tmvA_tm13 : (tm13T.leaves tm13L).all goodL_tmvA = true := by kernel_rfl
theorem tmvA_tm14 : (tm14T.leaves tm14L).all goodL_tmvA = true := by kernel_rfl
theorem tmvA_tm17 : (tm17T.leaves tm17L).all goodL_tmvA = true := by kernel_rfl
theorem tmvA_tm21 : (tm21T.leaves tm21L).all goodL_tmvA = true := by kernel_rfl
theorem tmvA_tm23 : (tm23T.leaves tm23L).all goodL_tmvA = true := by kernel_rfl
theorem tmvA_tm24 : (tm24T.leaves tm24L).all goodL_tmvA = true := by kernel_rfl
theorem tmvA_tm25 : (tm25T.leaves tm25L).all goodL_tmvA = true := by kernel_rfl
theorem tmvA_tm28 : (tm28T.leaves tm28L).all goodL_tmvA = true := by kernel_rfl
theorem tmvA_tm31 : (tm31T.leaves tm31L).all goodL_tmvA = true := by kernel_rfl
theorem tmvA_tm35 : (tm35T.leaves tm35L).all goodL_tmvA = true := by kernel_rfl
theorem tmvA_tm37 : (tm37T.leaves tm37L).all goodL_tmvA = true := by kernel_rfl
theorem tmvA_tm38 : (tm38T.leaves tm38L).all goodL_tmvA = true := by kernel_rfl
theorem tmvA_tm39 : (tm39T.leaves tm39L).all goodL_tmvA = true := by kernel_rfl
theorem tmvA_tm40 : (tm40T.leaves tm40L).all goodL_tmvA = true := by kernel_rfl
theorem tmvA_tm41 : (tm41T.leaves tm41L).all goodL_tmvA = true := by kernel_rfl
theorem tmvA_tm44 : (tm44T.leaves tm44L).all goodL_tmvA = true := by kernel_rfl
theorem tmvA_tm47 : (tm47T.leaves tm47L).all goodL_tmvA = true := by kernel_rfl
theorem tmvA_tm51 : (tm51T.leaves tm51L).all goodL_tmvA = true := by kernel_rfl
theorem tmvA_tm53 : (tm53T.leaves tm53L).all goodL_tmvA = true := by kernel_rfl
theorem tmvA_tm54 : (tm54T.leaves tm54L).all goodL_tmvA = true := by kernel_rfl
theorem tmvA_tm55 : (tm55T.leaves tm55L).all goodL_tmvA = true := by kernel_rfl
theorem tmvA_tm56 : (tm56T.leaves tm56L).all goodL_tmvA = true := by kernel_rfl
theorem tmvA_tm57 : (tm57T.leaves tm57L).all goodL_tmvA = true := by kernel_rfl
theorem tmvA_tm58 : (tm58T.leaves tm58L).all goodL_tmvA = true := by kernel_rfl
theorem tmvA_tm61 : (tm61T.leaves tm61L).all goodL_tmvA = true := by kernel_rfl
theorem tmvA_tm65 : (tm65T.leaves tm65L).all goodL_tmvA = true := by kernel_rfl
theorem tmvA_tm67 : (tm67T.leaves tm67L).all goodL_tmvA = true := by kernel_rfl
theorem tmvA_tm68 : (tm68T.leaves tm68L).all goodL_tmvA = true := by kernel_rfl
theorem tmvA_tm69 : (tm69T.leaves tm69L).all goodL_tmvA = true := by kernel_rfl
theorem tmvA_tm72 : (tm72T.leaves tm72L).all goodL_tmvA = true := by kernel_rfl
theorem tmvA_tm75 : (tm75T.leaves tm75L).all goodL_tmvA = true := by kernel_rfl
theorem tmvA_tm79 : (tm79T.leaves tm79L).all goodL_tmvA = true := by kernel_rfl
theorem tmvA_tm81 : (tm81T.leaves tm81L).all goodL_tmvA = true := by kernel_rfl
theorem tmvA_tm82 : (tm82T.leaves tm82L).all goodL_tmvA = true := by kernel_rfl
theorem tmvA_tm83 : (tm83T.leaves tm83L).all goodL_tmvA = true := by kernel_rfl
theorem tmvA_tm84 : (tm84T.leaves tm84L).all goodL_tmvA = true := by kernel_rfl
theorem tmvA_tm85 : (tm85T.leaves tm85L).all goodL_tmvA = true := by kernel_rfl
theorem tmvA_tm88 : (tm88T.leaves tm88L).all goodL_tmvA = true := by kernel_rfl
theorem tmvA_tm91 : (tm91T.leaves tm91L).all goodL_tmvA = true := by kernel_rfl
theorem tmvA_tm95 : (tm95T.leaves tm95L).all goodL_tmvA = true := by kernel_rfl
theorem tmvA_tm97 : (tm97T.leaves tm97L).all goodL_tmvA = true := by kernel_rfl
theorem tmvA_tm98 : (tm98T.leaves tm98L).all goodL_tmvA = true := by kernel_rfl
theorem tmvA_tm99 : (tm99T.leaves tm99L).all goodL_tmvA = true := by kernel_rfl
theorem tmvA_tm100 : (tm100T.leaves tm100L).all goodL_tmvA = true := by kernel_rfl
theorem tmvA_tm101 : (tm101T.leaves tm101L).all goodL_tmvA = true := by kernel_rfl
theorem tmvA_tm102 : (tm102T.leaves tm102L).all goodL_tmvA = true := by kernel_rfl
theorem tmvA_tm103 : (tm103T.leaves tm103L).all goodL_tmvA = true := by kernel_rfl
theorem tmvA_tm104 : (tm104T.leaves tm104L).all goodL_tmvA = true := by kernel_rfl
theorem tmvA_tm105 : (tm105T.leaves tm105L).all goodL_tmvA = true := by kernel_rfl
theorem tmvA_tm107 : (tm107T.leaves tm107L).all goodL_tmvA = true := by kernel_rfl
theorem tmvA_tm109 : (tm109T.leaves tm109L).all goodL_tmvA = true := by kernel_rfl
theorem tmvA_tm110 : (tm110T.leaves tm110L).all goodL_tmvA = true := by kernel_rfl
theorem tmvA_tm12 : (tm12T.leaves tm12L).all goodL_tmvA = true := by
  have e : tm12T.leaves tm12L = tm13T.leaves tm13L ++ tm14T.leaves tm14L := rfl
  rw [e]
  simp only [List.all_append, tmvA_tm13, tmvA_tm14, Bool.and_self]
theorem tmvA_tm10 : (tm10T.leaves tm10L).all goodL_tmvA = true := by
  have e : tm10T.leaves tm10L = tm11T.leaves tm11L ++ tm12T.leaves tm12L := rfl
  rw [e]
  simp only [List.all_append, tmvA_tm11, tmvA_tm12, Bool.and_self]
theorem tmvA_tm22 : (tm22T.leaves tm22L).all goodL_tmvA = true := by
  have e : tm22T.leaves tm22L = tm23T.leaves tm23L ++ tm24T.leaves tm24L := rfl
  rw [e]
  simp only [List.all_append, tmvA_tm23, tmvA_tm24, Bool.and_self]
theorem tmvA_tm20 : (tm20T.leaves tm20L).all goodL_tmvA = true := by
  have e : tm20T.leaves tm20L = tm21T.leaves tm21L ++ tm22T.leaves tm22L := rfl
  rw [e]
  simp only [List.all_append, tmvA_tm21, tmvA_tm22, Bool.and_self]
theorem tmvA_tm19 : (tm19T.leaves tm19L).all goodL_tmvA = true := by
  have e : tm19T.leaves tm19L = tm20T.leaves tm20L ++ tm25T.leaves tm25L := rfl
  rw [e]
  simp only [List.all_append, tmvA_tm20, tmvA_tm25, Bool.and_self]
theorem tmvA_tm36 : (tm36T.leaves tm36L).all goodL_tmvA = true := by
  have e : tm36T.leaves tm36L = tm37T.leaves tm37L ++ tm38T.leaves tm38L := rfl
  rw [e]
  simp only [List.all_append, tmvA_tm37, tmvA_tm38, Bool.and_self]
theorem tmvA_tm34 : (tm34T.leaves tm34L).all goodL_tmvA = true := by
  have e : tm34T.leaves tm34L = tm35T.leaves tm35L ++ tm36T.leaves tm36L := rfl
  rw [e]
  simp only [List.all_append, tmvA_tm35, tmvA_tm36, Bool.and_self]
theorem tmvA_tm33 : (tm33T.leaves tm33L).all goodL_tmvA = true := by
  have e : tm33T.leaves tm33L = tm34T.leaves tm34L ++ tm39T.leaves tm39L := rfl
  rw [e]
  simp only [List.all_append, tmvA_tm34, tmvA_tm39, Bool.and_self]
theorem tmvA_tm32 : (tm32T.leaves tm32L).all goodL_tmvA = true := by
  have e : tm32T.leaves tm32L = tm33T.leaves tm33L ++ tm40T.leaves tm40L := rfl
  rw [e]
  simp only [List.all_append, tmvA_tm33, tmvA_tm40, Bool.and_self]
theorem tmvA_tm30 : (tm30T.leaves tm30L).all goodL_tmvA = true := by
  have e : tm30T.leaves tm30L = tm31T.leaves tm31L ++ tm32T.leaves tm32L := rfl
  rw [e]
  simp only [List.all_append, tmvA_tm31, tmvA_tm32, Bool.and_self]
theorem tmvA_tm29 : (tm29T.leaves tm29L).all goodL_tmvA = true := by
  have e : tm29T.leaves tm29L = tm30T.leaves tm30L ++ tm41T.leaves tm41L := rfl
  rw [e]
  simp only [List.all_append, tmvA_tm30, tmvA_tm41, Bool.and_self]
theorem tmvA_tm27 : (tm27T.leaves tm27L).all goodL_tmvA = true := by
  have e : tm27T.leaves tm27L = tm28T.leaves tm28L ++ tm29T.leaves tm29L := rfl
  rw [e]
  simp only [List.all_append, tmvA_tm28, tmvA_tm29, Bool.and_self]
theorem tmvA_tm52 : (tm52T.leaves tm52L).all goodL_tmvA = true := by
  have e : tm52T.leaves tm52L = tm53T.leaves tm53L ++ tm54T.leaves tm54L := rfl
  rw [e]
  simp only [List.all_append, tmvA_tm53, tmvA_tm54, Bool.and_self]
theorem tmvA_tm50 : (tm50T.leaves tm50L).all goodL_tmvA = true := by
  have e : tm50T.leaves tm50L = tm51T.leaves tm51L ++ tm52T.leaves tm52L := rfl
  rw [e]
  simp only [List.all_append, tmvA_tm51, tmvA_tm52, Bool.and_self]
theorem tmvA_tm49 : (tm49T.leaves tm49L).all goodL_tmvA = true := by
  have e : tm49T.leaves tm49L = tm50T.leaves tm50L ++ tm55T.leaves tm55L := rfl
  rw [e]
  simp only [List.all_append, tmvA_tm50, tmvA_tm55, Bool.and_self]
theorem tmvA_tm48 : (tm48T.leaves tm48L).all goodL_tmvA = true := by
  have e : tm48T.leaves tm48L = tm49T.leaves tm49L ++ tm56T.leaves tm56L := rfl
  rw [e]
  simp only [List.all_append, tmvA_tm49, tmvA_tm56, Bool.and_self]
theorem tmvA_tm46 : (tm46T.leaves tm46L).all goodL_tmvA = true := by
  have e : tm46T.leaves tm46L = tm47T.leaves tm47L ++ tm48T.leaves tm48L := rfl
  rw [e]
  simp only [List.all_append, tmvA_tm47, tmvA_tm48, Bool.and_self]
theorem tmvA_tm45 : (tm45T.leaves tm45L).all goodL_tmvA = true := by
  have e : tm45T.leaves tm45L = tm46T.leaves tm46L ++ tm57T.leaves tm57L := rfl
  rw [e]
  simp only [List.all_append, tmvA_tm46, tmvA_tm57, Bool.and_self]
theorem tmvA_tm43 : (tm43T.leaves tm43L).all goodL_tmvA = true := by
  have e : tm43T.leaves tm43L = tm44T.leaves tm44L ++ tm45T.leaves tm45L := rfl
  rw [e]
  simp only [List.all_append, tmvA_tm44, tmvA_tm45, Bool.and_self]
theorem tmvA_tm42 : (tm42T.leaves tm42L).all goodL_tmvA = true := by
  have e : tm42T.leaves tm42L = tm43T.leaves tm43L ++ tm58T.leaves tm58L := rfl
  rw [e]
  simp only [List.all_append, tmvA_tm43, tmvA_tm58, Bool.and_self]
theorem tmvA_tm26 : (tm26T.leaves tm26L).all goodL_tmvA = true := by
  have e : tm26T.leaves tm26L = tm27T.leaves tm27L ++ tm42T.leaves tm42L := rfl
  rw [e]
  simp only [List.all_append, tmvA_tm27, tmvA_tm42, Bool.and_self]
theorem tmvA_tm18 : (tm18T.leaves tm18L).all goodL_tmvA = true := by
  have e : tm18T.leaves tm18L = tm19T.leaves tm19L ++ tm26T.leaves tm26L := rfl
  rw [e]
  simp only [List.all_append, tmvA_tm19, tmvA_tm26, Bool.and_self]
theorem tmvA_tm16 : (tm16T.leaves tm16L).all goodL_tmvA = true := by
  have e : tm16T.leaves tm16L = tm17T.leaves tm17L ++ tm18T.leaves tm18L := rfl
  rw [e]
  simp only [List.all_append, tmvA_tm17, tmvA_tm18, Bool.and_self]
theorem tmvA_tm66 : (tm66T.leaves tm66L).all goodL_tmvA = true := by
  have e : tm66T.leaves tm66L = tm67T.leaves tm67L ++ tm68T.leaves tm68L := rfl
  rw [e]
  simp only [List.all_append, tmvA_tm67, tmvA_tm68, Bool.and_self]
theorem tmvA_tm64 : (tm64T.leaves tm64L).all goodL_tmvA = true := by
  have e : tm64T.leaves tm64L = tm65T.leaves tm65L ++ tm66T.leaves tm66L := rfl
  rw [e]
  simp only [List.all_append, tmvA_tm65, tmvA_tm66, Bool.and_self]
theorem tmvA_tm63 : (tm63T.leaves tm63L).all goodL_tmvA = true := by
  have e : tm63T.leaves tm63L = tm64T.leaves tm64L ++ tm69T.leaves tm69L := rfl
  rw [e]
  simp only [List.all_append, tmvA_tm64, tmvA_tm69, Bool.and_self]
theorem tmvA_tm80 : (tm80T.leaves tm80L).all goodL_tmvA = true := by
  have e : tm80T.leaves tm80L = tm81T.leaves tm81L ++ tm82T.leaves tm82L := rfl
  rw [e]
  simp only [List.all_append, tmvA_tm81, tmvA_tm82, Bool.and_self]
theorem tmvA_tm78 : (tm78T.leaves tm78L).all goodL_tmvA = true := by
  have e : tm78T.leaves tm78L = tm79T.leaves tm79L ++ tm80T.leaves tm80L := rfl
  rw [e]
  simp only [List.all_append, tmvA_tm79, tmvA_tm80, Bool.and_self]
theorem tmvA_tm77 : (tm77T.leaves tm77L).all goodL_tmvA = true := by
  have e : tm77T.leaves tm77L = tm78T.leaves tm78L ++ tm83T.leaves tm83L := rfl
  rw [e]
  simp only [List.all_append, tmvA_tm78, tmvA_tm83, Bool.and_self]
theorem tmvA_tm76 : (tm76T.leaves tm76L).all goodL_tmvA = true := by
  have e : tm76T.leaves tm76L = tm77T.leaves tm77L ++ tm84T.leaves tm84L := rfl
  rw [e]
  simp only [List.all_append, tmvA_tm77, tmvA_tm84, Bool.and_self]
theorem tmvA_tm74 : (tm74T.leaves tm74L).all goodL_tmvA = true := by
  have e : tm74T.leaves tm74L = tm75T.leaves tm75L ++ tm76T.leaves tm76L := rfl
  rw [e]
  simp only [List.all_append, tmvA_tm75, tmvA_tm76, Bool.and_self]
theorem tmvA_tm73 : (tm73T.leaves tm73L).all goodL_tmvA = true := by
  have e : tm73T.leaves tm73L = tm74T.leaves tm74L ++ tm85T.leaves tm85L := rfl
  rw [e]
  simp only [List.all_append, tmvA_tm74, tmvA_tm85, Bool.and_self]
theorem tmvA_tm71 : (tm71T.leaves tm71L).all goodL_tmvA = true := by
  have e : tm71T.leaves tm71L = tm72T.leaves tm72L ++ tm73T.leaves tm73L := rfl
  rw [e]
  simp only [List.all_append, tmvA_tm72, tmvA_tm73, Bool.and_self]
theorem tmvA_tm96 : (tm96T.leaves tm96L).all goodL_tmvA = true := by
  have e : tm96T.leaves tm96L = tm97T.leaves tm97L ++ tm98T.leaves tm98L := rfl
  rw [e]
  simp only [List.all_append, tmvA_tm97, tmvA_tm98, Bool.and_self]
theorem tmvA_tm94 : (tm94T.leaves tm94L).all goodL_tmvA = true := by
  have e : tm94T.leaves tm94L = tm95T.leaves tm95L ++ tm96T.leaves tm96L := rfl
  rw [e]
  simp only [List.all_append, tmvA_tm95, tmvA_tm96, Bool.and_self]
theorem tmvA_tm93 : (tm93T.leaves tm93L).all goodL_tmvA = true := by
  have e : tm93T.leaves tm93L = tm94T.leaves tm94L ++ tm99T.leaves tm99L := rfl
  rw [e]
  simp only [List.all_append, tmvA_tm94, tmvA_tm99, Bool.and_self]
theorem tmvA_tm92 : (tm92T.leaves tm92L).all goodL_tmvA = true := by
  have e : tm92T.leaves tm92L = tm93T.leaves tm93L ++ tm100T.leaves tm100L := rfl
  rw [e]
  simp only [List.all_append, tmvA_tm93, tmvA_tm100, Bool.and_self]
theorem tmvA_tm90 : (tm90T.leaves tm90L).all goodL_tmvA = true := by
  have e : tm90T.leaves tm90L = tm91T.leaves tm91L ++ tm92T.leaves tm92L := rfl
  rw [e]
  simp only [List.all_append, tmvA_tm91, tmvA_tm92, Bool.and_self]
theorem tmvA_tm89 : (tm89T.leaves tm89L).all goodL_tmvA = true := by
  have e : tm89T.leaves tm89L = tm90T.leaves tm90L ++ tm101T.leaves tm101L := rfl
  rw [e]
  simp only [List.all_append, tmvA_tm90, tmvA_tm101, Bool.and_self]
theorem tmvA_tm87 : (tm87T.leaves tm87L).all goodL_tmvA = true := by
  have e : tm87T.leaves tm87L = tm88T.leaves tm88L ++ tm89T.leaves tm89L := rfl
  rw [e]
  simp only [List.all_append, tmvA_tm88, tmvA_tm89, Bool.and_self]
theorem tmvA_tm86 : (tm86T.leaves tm86L).all goodL_tmvA = true := by
  have e : tm86T.leaves tm86L = tm87T.leaves tm87L ++ tm102T.leaves tm102L := rfl
  rw [e]
  simp only [List.all_append, tmvA_tm87, tmvA_tm102, Bool.and_self]
theorem tmvA_tm70 : (tm70T.leaves tm70L).all goodL_tmvA = true := by
  have e : tm70T.leaves tm70L = tm71T.leaves tm71L ++ tm86T.leaves tm86L := rfl
  rw [e]
  simp only [List.all_append, tmvA_tm71, tmvA_tm86, Bool.and_self]
theorem tmvA_tm62 : (tm62T.leaves tm62L).all goodL_tmvA = true := by
  have e : tm62T.leaves tm62L = tm63T.leaves tm63L ++ tm70T.leaves tm70L := rfl
  rw [e]
  simp only [List.all_append, tmvA_tm63, tmvA_tm70, Bool.and_self]
theorem tmvA_tm60 : (tm60T.leaves tm60L).all goodL_tmvA = true := by
  have e : tm60T.leaves tm60L = tm61T.leaves tm61L ++ tm62T.leaves tm62L := rfl
  rw [e]
  simp only [List.all_append, tmvA_tm61, tmvA_tm62, Bool.and_self]
theorem tmvA_tm59 : (tm59T.leaves tm59L).all goodL_tmvA = true := by
  have e : tm59T.leaves tm59L = tm60T.leaves tm60L ++ tm103T.leaves tm103L := rfl
  rw [e]
  simp only [List.all_append, tmvA_tm60, tmvA_tm103, Bool.and_self]
theorem tmvA_tm15 : (tm15T.leaves tm15L).all goodL_tmvA = true := by
  have e : tm15T.leaves tm15L = tm16T.leaves tm16L ++ tm59T.leaves tm59L := rfl
  rw [e]
  simp only [List.all_append, tmvA_tm16, tmvA_tm59, Bool.and_self]
theorem tmvA_tm9 : (tm9T.leaves tm9L).all goodL_tmvA = true := by
  have e : tm9T.leaves tm9L = tm10T.leaves tm10L ++ tm15T.leaves tm15L := rfl
  rw [e]
  simp only [List.all_append, tmvA_tm10, tmvA_tm15, Bool.and_self]
theorem tmvA_tm7 : (tm7T.leaves tm7L).all goodL_tmvA = true := by
  have e : tm7T.leaves tm7L = tm8T.leaves tm8L ++ tm9T.leaves tm9L := rfl
  rw [e]
  simp only [List.all_append, tmvA_tm8, tmvA_tm9, Bool.and_self]
theorem tmvA_tm6 : (tm6T.leaves tm6L).all goodL_tmvA = true := by
  have e : tm6T.leaves tm6L = tm7T.leaves tm7L ++ tm104T.leaves tm104L := rfl
  rw [e]
  simp only [List.all_append, tmvA_tm7, tmvA_tm104, Bool.and_self]
theorem tmvA_tm5 : (tm5T.leaves tm5L).all goodL_tmvA = true := by
  have e : tm5T.leaves tm5L = tm6T.leaves tm6L ++ tm105T.leaves tm105L := rfl
  rw [e]
  simp only [List.all_append, tmvA_tm6, tmvA_tm105, Bool.and_self]
theorem tmvA_tm3 : (tm3T.leaves tm3L).all goodL_tmvA = true := by
  have e : tm3T.leaves tm3L = tm4T.leaves tm4L ++ tm5T.leaves tm5L := rfl
  rw [e]
  simp only [List.all_append, tmvA_tm4, tmvA_tm5, Bool.and_self]
theorem tmvA_tm108 : (tm108T.leaves tm108L).all goodL_tmvA = true := by
  have e : tm108T.leaves tm108L = tm109T.leaves tm109L ++ tm110T.leaves tm110L := rfl
  rw [e]
  simp only [List.all_append, tmvA_tm109, tmvA_tm110, Bool.and_self]
theorem tmvA_tm106 : (tm106T.leaves tm106L).all goodL_tmvA = true := by
  have e : tm106T.leaves tm106L = tm107T.leaves tm107L ++ tm108T.leaves tm108L := rfl
  rw [e]
  simp only [List.all_append, tmvA_tm107, tmvA_tm108, Bool.and_self]
theorem tmvA_tm2 : (tm2T.leaves tm2L).all goodL_tmvA = true := by
  have e : tm2T.leaves tm2L = tm3T.leaves tm3L ++ tm106T.leaves tm106L := rfl
  rw [e]
  simp only [List.all_append, tmvA_tm3, tmvA_tm106, Bool.and_self]
theorem tmvA_tm0 : (tm0T.leaves tm0L).all goodL_tmvA = true := by
  have e : tm0T.leaves tm0L = tm1T.leaves tm1L ++ tm2T.leaves tm2L := rfl
  rw [e]
  simp only [List.all_append, tmvA_tm1, tmvA_tm2, Bool.and_self]
theorem tmvA_lists : ListsE 31 kSt okStE (fun us => stM (stOf us)) := lists_of (pls := tmP) (fun L xs => @stMX (L.know (strsT 0 kSt)) xs) (fun b0 L r xs us q hK ha h => by rw [← hK] at h; exact @stMX_ok b0 r xs us ha q h) (by kernel_rfl) (sp := tm0T) tmvA_tm0
end Go.Proofs.YtnhnelgkcldkbaaGreatDoor.Am
