/- fnshape.made answers by madeF. -/
import Derived.Test.YtbebbbclhgjcbaaFn5
namespace Go.Proofs.Ytbebbbclhgjcbaa.Am
open Go.RowKit
set_option maxRecDepth 100000
theorem okJ_len {pre post : List Value} {els : List (List Value)} (hp : pre.length = 9) (h : okJ pre els post = true) : els.length ≤ 8 := by
  have e9 : ∀ l, cellI (flatJ pre els post ++ l) 9 = (els.length : Int) := fun l => by
    unfold cellI flatJ
    rw [List.append_assoc, List.getElem?_append_right (by omega), hp]
    rfl
  unfold okJ at h
  rw [E.val_num] at h
  generalize hl : (bitsJ pre els post).map (Value.int .i64) = l at h
  have e9 := e9 l
  generalize hv : flatJ pre els post ++ l = vs at h e9
  simp only [okJB, E.num, E.ands, zs, inRE, Bool.or_eq_true, Bool.and_eq_true, decide_eq_true_eq, List.all_cons, List.all_nil, List.all_map] at h
  rcases h with h | h | h | h
  · have := List.all_eq_true.1 h.2.2.2 1 (by decide)
    simp only [Function.comp, decide_eq_true_eq] at this
    rw [show (8 + 1 : Nat) = 9 from rfl] at this
    omega
  · have := List.all_eq_true.1 h.2.2.2.2.2 0 (by decide)
    simp only [Function.comp, decide_eq_true_eq] at this
    rw [show (9 + 0 : Nat) = 9 from rfl] at this
    omega
  · have := List.all_eq_true.1 h.2 8 (by decide)
    simp only [Function.comp, decide_eq_true_eq] at this
    rw [show (1 + 8 : Nat) = 9 from rfl] at this
    omega
  · have := h.2.2.2.2.2.1
    omega
end Go.Proofs.Ytbebbbclhgjcbaa.Am
namespace Go.Proofs.Ytbebbbclhgjcbaa.made
open Go.RowKit Go.Proofs.Ytbebbbclhgjcbaa.Am
set_option maxRecDepth 100000
set_option linter.unusedVariables false
set_option linter.unusedSectionVars false
section
variable {w : World} {v : Value} {D : FnD} (h : FnOk' w v D)
include h
theorem made_ans (hL : D.ls.length ≤ 16) (hB : D.bs.length ≤ 24) (hS : ∀ b ∈ D.bs, b.st.length ≤ 24) : Answers f [v] w (.bool (madeF D)) := by
  have hS' : ∀ b ∈ D.bs, b.st.length ≤ 1000 ∧ (okJF b = true → b.ops.length ≤ 1000) := fun b hb => ⟨by have := hS b hb; omega, fun e => by
    have h1 := (h.blk b hb).prek.len
    have h2 := okJ_len (by rw [← h1]; rfl) e
    omega⟩
  have out := fun r (m : List Int) => outer h r (m := m) (fun _ => trivial) (by omega) hS'
  let a : Bool := D.bs.all (outB D.ls.length D.bs.length)
  let m : Bool → List Int := fun r => [0, b2i (r && a)]
  have lib : ∀ r hb, head.headF D = hb → ∀ K (ok : KnowOk K (fnB w D (atB 0) (m r)).rho (fnB w D (atB 0) (m r)).sig), @Sound ((fnB w D (atB 0) (m r)).withK K ok) Try.prog (libH hb K) := fun r hb e =>
    row_fnD h ⟨_, Try.func43, by kernel_rfl, by kernel_rfl⟩ (fun b0 r => vmB b0 r hb) (atB 0) (m r) fun w' hw => e ▸ head.head_ans hw (by omega)
  have LMh : ∀ r, LM.Holds (xsAt (fnXs D (atB 0) (m r))) (fun _ => []) := fun r => fn_start h (q := atB 0) (fits_B (by omega)) (iv := [ivB, ivB]) (m1 := [0, b2i (r && a)]) (m2 := []) ⟨⟨by decide, by decide⟩, in_b _, trivial⟩ _
  have good : ∀ r hb, head.headF D = hb → D.bs.all okB = true → RigOk Try.prog (rigP (libH hb) tabF fun K => rowsL [(f, rowM r (.exit 0) sNO K)]) (fnB w D (atB 0) (m r)) := fun r hb e hok =>
    rig_ok (lib r hb e) (tabF_ok h _ _) (rows_ok (T := fun K => [(f, rowM r (.exit 0) sNO K)]) fun K ok p hp => by
      obtain rfl := List.mem_singleton.1 hp
      exact ⟨F, Try.func27, fun c hc => row_fn tagO ((out r (m r)).1 hok rfl K ok) hc⟩)
  have bad : ∀ r hb, head.headF D = hb → D.bs.all okB = false → RigOk Try.prog (rigP (libH hb) tabF fun K => rowsL [(f, rowM r .ret sRO K)]) (fnB w D (atB 0) (m r)) := fun r hb e hok =>
    rig_ok (lib r hb e) (tabF_ok h _ _) (rows_ok (T := fun K => [(f, rowM r .ret sRO K)]) fun K ok p hp => by
      obtain rfl := List.mem_singleton.1 hp
      exact ⟨F, Try.func27, fun c hc => row_fn tagO ((out r (m r)).2 hok K ok) hc⟩)
  have ans : ∀ r x, @VV (fnB w D (atB 0) (m r)) x (V.s (.xe [(78, 1)])) = fun u => u = .bool (r && a) := fun r x => by
    funext u
    show (u = .bool (decide (xsAt (fnXs D (atB 0) (m r)) (77 + 1) = 1) || false)) = _
    rw [fn_more, Bool.or_false]
    show (u = .bool (decide (b2i (r && a) = 1))) = _
    rw [dec_b2i]
  cases hok : D.bs.all okB with
  | false =>
    have hm : madeF D = false := by unfold madeF; rw [hok]; simp
    rw [hm]
    cases hb : head.headF D with
    | false => exact fn_call h bad0 (bad false false hb hok) (LMh false) (fnFx_ok D _ _) (fun p hp => by cases hp) (fun r x hx => hx)
    | true =>
      by_cases hn : 0 < D.bs.length
      · exact fn_call h bad1 (bad true true hb hok) ((LMh true).lo (i := 3) (c := 1) (show (1 : Int) ≤ (D.bs.length : Int) by omega)) (fnFx_ok D _ _) (fun p hp => by cases hp) (fun r x hx => hx)
      · exact fn_call h bad2 (bad false true hb hok) ((LMh false).hi (i := 3) (c := 0) (show (D.bs.length : Int) ≤ 0 by omega)) (fnFx_ok D _ _) (fun p hp => by cases hp) (fun r x hx => hx)
  | true =>
    have hm : madeF D = (head.headF D && (decide (0 < D.bs.length) && a)) := by unfold madeF; rw [hok, Bool.true_and]
    rw [hm]
    cases hb : head.headF D with
    | false => exact fn_call h good0 (good false false hb hok) (LMh false) (fnFx_ok D _ _) (fun p hp => by cases hp) (fun r x hx => by rw [ans] at hx; exact hx)
    | true =>
      by_cases hn : 0 < D.bs.length
      · rw [decide_eq_true hn]
        exact fn_call h good1 (good true true hb hok) ((LMh true).lo (i := 3) (c := 1) (show (1 : Int) ≤ (D.bs.length : Int) by omega)) (fnFx_ok D _ _) (fun p hp => by cases hp) (fun r x hx => by rw [ans] at hx; exact hx)
      · rw [decide_eq_false hn]
        exact fn_call h good2 (good false true hb hok) ((LMh false).hi (i := 3) (c := 0) (show (D.bs.length : Int) ≤ 0 by omega)) (fnFx_ok D _ _) (fun p hp => by cases hp) (fun r x hx => by rw [ans] at hx; exact hx)
end
end Go.Proofs.Ytbebbbclhgjcbaa.made
