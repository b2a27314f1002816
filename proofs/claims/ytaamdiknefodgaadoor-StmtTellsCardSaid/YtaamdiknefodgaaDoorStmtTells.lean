/- StmtTells: its answer at any arguments: true. The calls' answers are rows: a text, lists of numbers. -/
import Derived.Test.YtaamdiknefodgaaDoorAmLaw
import Derived.Test.YtaamdiknefodgaaDoorSrt5
import Derived.Test.YtaamdiknefodgaaDoorTexts5A
import Derived.Test.YtaamdiknefodgaaDoorTexts5B
import Derived.Test.YtaamdiknefodgaaDoorLists5MA
import Derived.Test.YtaamdiknefodgaaDoorLists5MB
import Derived.Test.YtaamdiknefodgaaDoorUses5
namespace Go.Proofs.YtaamdiknefodgaaDoor.stmtTells
open Go.RowKit Go.Proofs.YtaamdiknefodgaaDoor.Am
set_option linter.unusedVariables false
set_option linter.unusedSectionVars false
set_option maxRecDepth 100000
def gs : List Gp := [(true, kSt)]
def L0 : Lf := Lf.startB gs [(0, 100)] []
def sp : Sp := (.cut 0 3 (.cut 0 1 .leaf (.cut 0 2 (.cut 2 1 (.cut 3 1 .leaf .leaf) .leaf) .leaf)) (.cut 0 4 .leaf .leaf))
noncomputable def rows (L : Lf) (v : Bool) (nu nm : Nat) : List Oracle :=
  [cellO 45 (clL L 0 kSt) (m8 v), cellO 51 (clL L 0 kSt) (m8 v), cellO 82 (clL L 0 kSt) (mB v)]
  ++ (bif v then [cellO 44 (clL L 0 kSt) (mS2 (.xs [282])), cellO 86 (clL L 0 kSt) (mS1 (.xs [282])),
    listO 41 (clL L 0 kSt) (numsX 27 nu), listO 47 (clL L 0 kSt) (numsX 27 nu),
    listO 43 (clL L 0 kSt) (numsX (27 + nu) nm), listO 49 (clL L 0 kSt) (numsX (27 + nu) nm)] else [])
noncomputable def good (v : Bool) (nu nm : Nat) (L : Lf) : Bool := tells true (@runs (L.knowF (strsB 26 1) noFacts) (tyOf Tryd.prog) (fnOf Tryd.prog) (orcs (rows L v nu nm)) 20 10 10 ((argsT 0 gs).map L.nA) ⟨[], 0⟩ 0)
def casesN (a : Nat) : List (Bool × Nat × Nat) := (List.range 3).map fun b => (true, a, b)
def cases : List (Bool × Nat × Nat) := [(false, 0, 0)] ++ (casesN 0 ++ (casesN 1 ++ (casesN 2 ++ casesN 3)))
noncomputable def one (c : Bool × Nat × Nat) : Bool := (sp.leaves L0).all (good c.1 c.2.1 c.2.2)
theorem run9 : [((false, 0, 0) : Bool × Nat × Nat)].all one = true := by kernel_rfl
theorem run0 : (casesN 0).all one = true := by kernel_rfl
theorem run1 : (casesN 1).all one = true := by kernel_rfl
theorem run2 : (casesN 2).all one = true := by kernel_rfl
theorem run3 : (casesN 3).all one = true := by kernel_rfl
theorem run : cases.all one = true := by
  unfold cases
  simp only [List.all_append, run9, run0, run1, run2, run3, Bool.and_self]
theorem cases_mem {a b : Nat} (ha : a ≤ 3) (hb : b ≤ 2) : (true, a, b) ∈ cases := by
  have hm : (true, a, b) ∈ casesN a := List.mem_map.2 ⟨b, List.mem_range.2 (by omega), rfl⟩
  have hc : a = 0 ∨ a = 1 ∨ a = 2 ∨ a = 3 := by omega
  unfold cases
  simp only [List.mem_append]
  rcases hc with rfl | rfl | rfl | rfl
  · exact .inr (.inl hm)
  · exact .inr (.inr (.inl hm))
  · exact .inr (.inr (.inr (.inl hm)))
  · exact .inr (.inr (.inr (.inr hm)))
def ints (s : List Value) : List Int := stU (stOf s) ++ stM (stOf s)
def full (s : List Value) : List Value := behind (s ++ []) [stT (stOf s)] (ints s)
section
variable {s : List Value} {w : World} (h : All2 Kd.ok kSt s) (kt : TabOk w)
include h
theorem gps : Gps gs [.agg s.toArray] (s ++ []) := ⟨s, _, rfl, ⟨h, .inl ⟨rfl, rfl⟩⟩, rfl⟩
theorem cells_len : (s ++ []).length = 26 := by rw [List.append_nil]; exact h.len.symm
theorem holds0 : L0.Holds (rhoOf (full s)) (sigOf (full s)) := by
  have b1 := stT_any (stOf s)
  exact Lf.startB_some (gps h) (ivS := [(0, 100)]) (ivI := []) ⟨⟨by dsimp only; omega, by dsimp only; omega⟩, trivial⟩ (i0 := []) (i1 := ints s) rfl trivial
include kt
theorem walk0 : Calls Tryd.prog 10 #[.agg s.toArray] w fun e w' => e = .returned (.bool true) ∧ Below w.heap.size w w' := by
  -- the case
  have hcase : ∃ v nu nm, (v, nu, nm) ∈ cases ∧ okStE.val s = v ∧ (v = true → (stU (stOf s)).length = nu ∧ (stM (stOf s)).length = nm) := by
    cases hv : okStE.val s with
    | false => exact ⟨false, 0, 0, List.mem_append.2 (.inl (List.mem_singleton.2 rfl)), rfl, fun e => by cases e⟩
    | true =>
      have h1 := stU_len (stOf s)
      have h2 := stM_len (stOf s)
      refine ⟨true, (stU (stOf s)).length, (stM (stOf s)).length, ?_, rfl, fun _ => ⟨rfl, rfl⟩⟩
      exact cases_mem h1 h2
  obtain ⟨v, nu, nm, hm, hv, hn⟩ := hcase
  obtain ⟨L, hmem, hL⟩ := sp.cover (holds0 h)
  have hg : good v nu nm L = true := List.all_eq_true.1 (List.all_eq_true.1 run (v, nu, nm) hm) L hmem
  have hlens : Lens (strsB 26 1) (rhoOf (full s)) (sigOf (full s)) := lens_behind (gps h) rfl (cells_len h) rfl
  letI b0 : Base := base0 w (Lf.okF hL hlens (noFacts_ok _ _))
  have e0 : full s = s ++ ([stT (stOf s)].map strV ++ (ints s).map (Value.int .i64)) := by
    unfold full behind
    rw [List.append_nil]
  have cs : All2 (VS r0) (clL L 0 kSt) s := clL_ok (pre := []) (us := s) (post := [stT (stOf s)].map strV ++ (ints s).map (Value.int .i64)) hL rfl rfl e0 rfl h
  have tabs : ∀ w' : World, (∀ b, b < Base.nb → w'.heap[b]? = Base.g b) → TabOk w' := fun w' hw => kt.all hw
  have hsig : Base.sig 26 = stT (stOf s) := behind_str (j := 0) (cells_len h) rfl
  have hstr : strX Base.sig [282] = stT (stOf s) := by rw [show (282 : Nat) = 256 + 26 from rfl, strX_one, hsig]
  have hU : v = true → ∀ r, All2 (VS r) (numsX 27 nu) (intsV (stU (stOf s))) := fun e r => by
    rw [← (hn e).1]
    refine numsX_ok fun j m hj => ?_
    refine behind_int (a := 1) (cells_len h) rfl ?_
    unfold ints
    rw [List.getElem?_append_left (List.getElem?_eq_some_iff.1 hj).1]
    exact hj
  have hM : v = true → ∀ r, All2 (VS r) (numsX (27 + nu) nm) (intsV (stM (stOf s))) := fun e r => by
    rw [← (hn e).2, ← (hn e).1]
    refine numsX_ok fun j m hj => ?_
    rw [show 27 + (stU (stOf s)).length + j = 26 + 1 + ((stU (stOf s)).length + j) by omega]
    refine behind_int (a := 1) (cells_len h) rfl ?_
    unfold ints
    rw [List.getElem?_append_right (by omega), show (stU (stOf s)).length + j - (stU (stOf s)).length = j by omega]
    exact hj
  have hS : Sound Tryd.prog (orcs (rows L v nu nm)) := by
    refine sound_orcs fun O hO => ?_
    unfold rows at hO
    rcases List.mem_append.1 hO with hO | hO
    · simp only [List.mem_cons, List.not_mem_nil, or_false] at hO
      rcases hO with rfl | rfl | rfl
      · exact sound_cell ⟨_, Tryd.func45, by kernel_rfl, by kernel_rfl⟩ (ones_T _ kSt 0 rfl) cs (u := v8 v) (fun _ => rfl) fun w' _ => by rw [← hv]; exact stA_tests s h w' trivial
      · exact sound_cell ⟨_, Tryd.func51, by kernel_rfl, by kernel_rfl⟩ (ones_T _ kSt 0 rfl) cs (u := v8 v) (fun _ => rfl) fun w' _ => by rw [← hv]; exact stP_tests s h w' trivial
      · exact sound_cell ⟨_, Tryd.func82, by kernel_rfl, by kernel_rfl⟩ (ones_T _ kSt 0 rfl) cs (u := .bool v) (fun _ => rfl) fun w' _ => by rw [← hv]; exact stV_tests s h w' trivial
    · cases v with
      | false => cases hO
      | true =>
        have t2 : ∀ r, VV r (mS2 (.xs [282])) (vS2 (stT (stOf s))) := fun r => ⟨[_, _], rfl, by
          refine ⟨?_, rfl, trivial⟩
          show Value.string _ = .string ⟨(strX Base.sig [282]).toArray⟩
          rw [hstr]⟩
        have t1 : ∀ r, VV r (mS1 (.xs [282])) (vS1 (stT (stOf s))) := fun r => by
          show Value.string _ = .string ⟨(strX Base.sig [282]).toArray⟩
          rw [hstr]
        simp only [cond_true, List.mem_cons, List.not_mem_nil, or_false] at hO
        rcases hO with rfl | rfl | rfl | rfl | rfl | rfl
        · exact sound_cell ⟨_, Tryd.func44, by kernel_rfl, by kernel_rfl⟩ (ones_T _ kSt 0 rfl) cs t2 fun w' hw => tstA_texts s h hv w' (tabs w' hw)
        · exact sound_cell ⟨_, Tryd.func86, by kernel_rfl, by kernel_rfl⟩ (ones_T _ kSt 0 rfl) cs t1 fun w' hw => tstB_texts s h hv w' (tabs w' hw)
        · exact sound_list ⟨_, Tryd.func41, by kernel_rfl, by kernel_rfl⟩ (ones_T _ kSt 0 rfl) cs (hU rfl) (Q := TabOk) (fun w' hw => tabs w' hw) (tusA_lists s h hv)
        · exact sound_list ⟨_, Tryd.func47, by kernel_rfl, by kernel_rfl⟩ (ones_T _ kSt 0 rfl) cs (hU rfl) (Q := TabOk) (fun w' hw => tabs w' hw) (tusB_lists s h hv)
        · exact sound_list ⟨_, Tryd.func43, by kernel_rfl, by kernel_rfl⟩ (ones_T _ kSt 0 rfl) cs (hM rfl) (Q := TabOk) (fun w' hw => tabs w' hw) (tmvA_lists s h hv)
        · exact sound_list ⟨_, Tryd.func49, by kernel_rfl, by kernel_rfl⟩ (ones_T _ kSt 0 rfl) cs (hM rfl) (Q := TabOk) (fun w' hw => tabs w' hw) (tmvB_lists s h hv)
  exact law_facts (vs := [.agg s.toArray]) kt.size (gps h) rfl (cells_len h) rfl hL (noFacts_ok _ _) _ (sound_runs _ hS 20 10) hg
end
theorem walk {w : World} (k : TabOk w) {vs cs : List Value} (hg : Gps gs vs cs) : Calls Tryd.prog 10 vs.toArray w fun e w' => e = .returned (.bool true) ∧ Below w.heap.size w w' := by
  match vs, hg with
  | [v0], ⟨s, _, _, ⟨h1, h2⟩, _⟩ =>
    rcases h2 with ⟨_, rfl⟩ | ⟨e, _⟩
    · exact walk0 h1 k
    · cases e
end Go.Proofs.YtaamdiknefodgaaDoor.stmtTells
