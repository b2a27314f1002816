/- StmtRvalue: the statement: for every input the law returns true, and each argument reads as it did. The walk is the machine's runs, a case each, by the kernel. -/
import Derived.Test.YtaamdiknefodgaaDoorStmtRvR
import Derived.Test.YtaamdiknefodgaaDoorSeat
import Derived.Test.YtaamdiknefodgaaDoorTie
import Derived.Test.YtaamdiknefodgaaDoorCards
import Derived.SevenTiedAt
namespace Go.Proofs.YtaamdiknefodgaaDoor.stmtRvalue
open Go.RowKit Go.Proofs.YtaamdiknefodgaaDoor.Am
set_option linter.unusedVariables false
set_option linter.unusedSectionVars false
set_option maxRecDepth 100000
theorem tabs_withK {b : Base} {T : Tabs} (h : @TabsOk b T) {K : Know} (ok : KnowOk K b.rho b.sig) : @TabsOk (b.withK K ok) T := by
  obtain ⟨h1, h2, h3⟩ := h
  exact @TabsOk.mk (b.withK K ok) T h1 h2 h3
theorem turns_pre {P : Program} {b1 b2 : Base} {d : Bd} (ag : Agree b1 b1 d) {th : Th} (ht : Th.ok b1 b1 th) {c : Code} {hd hd' s1 : St} {x : X} (hf : fitSt d th hd' hd = true) (hnx : hd.h.next = hd'.h.next) (h : Turns P b1 b2 c hd' x s1) : Turns P b1 b2 c hd x s1 := by
  intro r B a w hr
  obtain ⟨k1, k2⟩ := fitSt_ok ag ht hf hr
  have hadv := k2 (fl := 0) (Parts.ok hr).n hnx (@Adv.refl b1 0 hd.h r B w (@Rel.i b1 _ _ _ _ _ hr)) (fun l _ h => absurd h (Nat.not_lt_zero l))
  exact wp_mono (h k1) fun e a' w' ⟨h1, r', h2, h3, h4⟩ => ⟨h1, r', h2, Adv.trans' (Parts.ok hr).dom (Parts.ok k1).dom hadv h3, h4⟩
theorem cellI_part {us : List Value} {n m i : Nat} (h : i < m) : cellI ((us.drop n).take m) i = cellI us (n + i) := by
  unfold cellI
  rw [List.getElem?_take_of_lt h, List.getElem?_drop]
/-! plain: lists of numbers -/
theorem incr_short : ∀ {l T : List Int}, Incr l → (∀ x ∈ l, x ∈ T) → l.length ≤ T.length
  | [], T, _, _ => Nat.zero_le _
  | x :: l, T, hp, h => by
    obtain ⟨s, t, rfl⟩ := List.append_of_mem (h x (List.mem_cons_self ..))
    have := incr_short (l := l) (T := s ++ t) hp.2 fun y hy => by
      have h1 := h y (List.mem_cons_of_mem _ hy)
      have h2 := hp.1 y hy
      simp only [List.mem_append, List.mem_cons] at h1 ⊢
      rcases h1 with h1 | h1 | h1
      · exact .inl h1
      · omega
      · exact .inr h1
    simp only [List.length_cons, List.length_append] at this ⊢
    omega
/-- where a number that is not among them stands -/
theorem gap_at : ∀ {l : List Int}, Incr l → ∀ {k : Int}, k ∉ l → ∃ p, p ≤ l.length ∧ ∀ j x, l[j]? = some x → (j < p → x < k) ∧ (p ≤ j → k < x)
  | [], _, k, _ => ⟨0, Nat.le_refl _, fun j x h => by simp at h⟩
  | a :: l, ⟨h1, h2⟩, k, hk => by
    by_cases e : k < a
    · refine ⟨0, Nat.zero_le _, fun j x h => ⟨fun q => absurd q (Nat.not_lt_zero _), fun _ => ?_⟩⟩
      rcases List.mem_cons.1 (List.mem_of_getElem? h) with rfl | hx
      · exact e
      · have := h1 x hx; omega
    · have hne : k ≠ a := fun e => hk (by rw [e]; exact List.mem_cons_self ..)
      obtain ⟨p, hp, h⟩ := gap_at h2 (k := k) fun q => hk (List.mem_cons_of_mem _ q)
      refine ⟨p + 1, by simp only [List.length_cons]; omega, fun j x hx => ?_⟩
      cases j with
      | zero =>
        have : a = x := by simpa using hx
        subst this
        exact ⟨fun _ => by omega, fun q => by omega⟩
      | succ j =>
        have := h j x (by simpa using hx)
        exact ⟨fun q => this.1 (by omega), fun q => this.2 (by omega)⟩
theorem range_eq (l : List Int) : (List.range l.length).map (fun i => l[i]?) = l.map some := by
  refine List.ext_getElem? fun i => ?_
  rw [List.getElem?_map, List.getElem?_map]
  by_cases hi : i < l.length
  · rw [List.getElem?_range hi, List.getElem?_eq_getElem hi]
    simp [hi]
  · rw [List.getElem?_eq_none (by simpa using hi), List.getElem?_eq_none (by simpa using hi)]
    rfl
def list5 : List (Nat × Nat × List Nat × Nat) := [(1, 0, [0], 2), (1, 0, [], 1), (2, 0, [0, 1], 3), (2, 0, [1], 2), (2, 1, [0, 1], 3), (2, 1, [0], 2), (3, 0, [1, 2], 3), (3, 1, [0, 2], 3), (3, 2, [0, 1], 3)]
theorem ins_cases (l : Int) : ∀ {R : List Int}, Incr R → R.length ≤ 2 → ∃ p rs, ((insU l R).length, p, rs, R.length + 1) ∈ list5 ∧ (insU l R)[p]? = some l ∧ rs.map (fun i => (insU l R)[i]?) = R.map some
  | [], _, _ => ⟨0, [], by simp [insU, list5], rfl, rfl⟩
  | [a], _, _ => by
    by_cases h1 : l < a
    · refine ⟨0, [1], ?_⟩
      simp [insU, h1, list5]
    · by_cases h2 : l = a
      · subst h2
        refine ⟨0, [0], ?_⟩
        simp [insU, list5]
      · refine ⟨1, [0], ?_⟩
        simp [insU, h1, h2, list5]
  | [a, b], hi, _ => by
    have hab : a < b := hi.1 b (List.mem_cons_self ..)
    by_cases h1 : l < a
    · refine ⟨0, [1, 2], ?_⟩
      simp [insU, h1, list5]
    · by_cases h2 : l = a
      · subst h2
        refine ⟨0, [0, 1], ?_⟩
        simp [insU, list5]
      · by_cases h3 : l < b
        · refine ⟨1, [0, 2], ?_⟩
          simp [insU, h1, h2, h3, list5]
        · by_cases h4 : l = b
          · subst h4
            refine ⟨1, [0, 1], ?_⟩
            simp [insU, h1, h2, list5]
          · refine ⟨2, [0, 1], ?_⟩
            simp [insU, h1, h2, h3, h4, list5]
  | _ :: _ :: _ :: _, _, h => by simp at h
/-! the statement's parts -/
theorem rv_part {s : List Value} (h : All2 Kd.ok kSt s) : All2 Kd.ok kRv ((s.drop 4).take 16) ∧ (okRvE 0).val ((s.drop 4).take 16) = (okRvE 4).val s ∧ rvAt ((s.drop 4).take 16) 0 = rvAt s 4 := by
  refine ⟨(h.drop 4).take 16, rv_at, ?_⟩
  unfold rvAt opdAt
  simp only [cellI_part (n := 4) (m := 16), Nat.reduceAdd, Nat.reduceLT]
def Z8 : List Value := [.int .u8 0, .int .i64 0, .int .i64 0, .bool false, .int .u8 0, .int .i64 0, .bool false, .int .u8 0]
def asRv (s : List Value) : List Value := [.int .u8 1, .int .u8 0, .int .u8 0] ++ ((s.drop 20).take 5 ++ Z8)
theorem okZ8 : Kd.ok (.i .u8) (.int .u8 0) := ⟨0, rfl, by decide, by decide⟩
theorem okZ6 : Kd.ok (.i .i64) (.int .i64 0) := ⟨0, rfl, by decide, by decide⟩
theorem okZb : Kd.ok .b (.bool false) := ⟨false, rfl⟩
theorem op5 {O : List Value} (hO : All2 Kd.ok kOp O) (hv : (okOpE 0).val O = true) : All2 Kd.ok kRv ([.int .u8 1, .int .u8 0, .int .u8 0] ++ (O ++ Z8)) ∧ (okRvE 0).val ([.int .u8 1, .int .u8 0, .int .u8 0] ++ (O ++ Z8)) = true ∧ rvU (rvAt ([.int .u8 1, .int .u8 0, .int .u8 0] ++ (O ++ Z8)) 0) = opU (opdAt O 0) ∧ rvM (rvAt ([.int .u8 1, .int .u8 0, .int .u8 0] ++ (O ++ Z8)) 0) = opM (opdAt O 0) := by
  have hl : O.length = 5 := hO.len.symm
  have z3 : All2 Kd.ok [.i .u8, .i .u8, .i .u8] [.int .u8 1, .int .u8 0, .int .u8 0] := ⟨⟨1, rfl, by decide, by decide⟩, okZ8, okZ8, trivial⟩
  have z8 : All2 Kd.ok [.i .u8, .i .i64, .i .i64, .b, .i .u8, .i .i64, .b, .i .u8] Z8 := ⟨okZ8, okZ6, okZ6, okZb, okZ8, okZ6, okZb, okZ8, trivial⟩
  refine ⟨All2.app z3 (All2.app hO z8), ?_, ?_, ?_⟩
  · match O, hl with
    | [a, b, c, d, e], _ =>
      have e3 : (okOpE 3).val ([.int .u8 1, .int .u8 0, .int .u8 0] ++ ([a, b, c, d, e] ++ Z8)) = true := hv
      have hA : (E.ands [.zero [(0, 1)], okOpE 3, .zero (zs 8 5), .zero (zs 13 3), .zero [(1, 0)], .zero [(2, 0)]]).val ([.int .u8 1, .int .u8 0, .int .u8 0] ++ ([a, b, c, d, e] ++ Z8)) = true := by
        show (_ && (_ && (_ && (_ && (_ && _))))) = true
        simp only [Bool.and_eq_true]
        exact ⟨rfl, e3, rfl, rfl, rfl, rfl⟩
      unfold okRvE
      show (_ || _) = true
      rw [Bool.or_eq_true]
      exact .inl hA
  · match O, hl with
    | [a, b, c, d, e], _ =>
      unfold rvU
      rw [if_pos (by rfl)]
      rfl
  · match O, hl with
    | [a, b, c, d, e], _ =>
      unfold rvM
      rw [if_pos (by rfl)]
      rfl
theorem op_part {s : List Value} (h : All2 Kd.ok kSt s) (hv : (okOpE 20).val s = true) : All2 Kd.ok kRv (asRv s) ∧ (okRvE 0).val (asRv s) = true ∧ rvU (rvAt (asRv s) 0) = opU (opdAt s 20) ∧ rvM (rvAt (asRv s) 0) = opM (opdAt s 20) := by
  have hO : All2 Kd.ok kOp ((s.drop 20).take 5) := (h.drop 20).take 5
  have e : opdAt ((s.drop 20).take 5) 0 = opdAt s 20 := by
    unfold opdAt
    simp only [cellI_part (n := 20) (m := 5), Nat.reduceAdd, Nat.reduceLT]
  have := op5 hO (op_at.trans hv)
  rw [e] at this
  exact this
/-! the numbers -/
def full (s : List Value) (t : List Int) : List Value := behind (s ++ []) [] ((stU (stOf s) ++ stM (stOf s)) ++ t)
structure IsCase (s : List Value) (x : Cs) : Prop where
  ok : (stOf s).Ok
  val : okStE.val s = true
  nu : (stU (stOf s)).length = x.nu
  nm : (stM (stOf s)).length = x.nm
  pi : ∀ p, x.pi = some p → (stU (stOf s))[p]? = some (cellI s 1)
  shape : (x.c = 1 ∧ cellI s 0 = 1 ∧ (0 ≤ cellI s 1 ∧ cellI s 1 ≤ 15) ∧ cellI s 2 = 0 ∧ cellI s 3 = 0) ∨ (x.c = 2 ∧ cellI s 0 = 2) ∨ (x.c = 3 ∧ cellI s 0 = 3) ∨ (x.c = 4 ∧ cellI s 0 = 4) ∨ (x.c = 5 ∧ cellI s 0 = 1 ∧ (0 ≤ cellI s 1 ∧ cellI s 1 ≤ 15) ∧ cellI s 2 = 1) ∨ (x.c = 6 ∧ cellI s 0 = 1 ∧ (0 ≤ cellI s 1 ∧ cellI s 1 ≤ 15) ∧ cellI s 2 = 0 ∧ (1 ≤ cellI s 3 ∧ cellI s 3 ≤ 2))
  rs : (bif Nat.beq x.c 3 then True else x.rs.map (fun i => (stU (stOf s))[i]?) = (bif Nat.beq x.c 2 || Nat.beq x.c 4 then opU (opdAt s 20) else rvU (rvAt s 4)).map some)
  ml : (bif Nat.beq x.c 3 then True else stM (stOf s) = bif Nat.beq x.c 2 || Nat.beq x.c 4 then opM (opdAt s 20) else rvM (rvAt s 4))
  part : (bif Nat.beq x.c 3 then True else bif Nat.beq x.c 2 || Nat.beq x.c 4 then (okOpE 20).val s = true else (okRvE 4).val s = true)
theorem all2_map {α : Type} {R : (Int × Int) → α → Prop} {p : Int × Int} : ∀ {l : List α}, (∀ x ∈ l, R p x) → All2 R (List.replicate l.length p) l
  | [], _ => trivial
  | x :: l, h => ⟨h x (List.mem_cons_self ..), all2_map fun y hy => h y (List.mem_cons_of_mem _ hy)⟩
theorem holds_only {L : Lf} {rho : Nat → Int} {sig : Nat → List UInt8} (h : L.Holds rho sig) {i : Nat} {c : Int} (e : rho i = c) : (only L i c).Holds rho sig := (h.hi (i := i) (c := c) (by omega)).lo (i := i) (c := c) (by omega)
theorem f_tag : (loopsIn ((Tryd.f12.body).getD .skip)).map Code.tag = [20] := by kernel_rfl
theorem code_tag : (loopAt Tryd.f12 0).tag = 20 := by kernel_rfl
theorem row_of {bo : Base} {f : FuncId} {G : Func} (hG : Tryd.prog.funcs[f]? = some G) {tag : Nat} (ht : (loopsIn ((G.body).getD .skip)).map Code.tag = [tag]) (hat : (loopAt G 0).tag = tag) {d : Bd} {th : Th} {hd s1 : St} {x : X} (h : @LoopOk bo Tryd.prog (rowL tag d th hd x s1) (loopAt G 0)) (F : Func) (c : Code) (hF : Tryd.prog.funcs[f]? = some F) (hc : F.body = some c) :
    Loops.ok (@LoopOk bo Tryd.prog (rowL tag d th hd x s1)) c := by
  obtain rfl : G = F := Option.some.inj (hG.symm.trans hF)
  rw [hc] at ht
  have ht : (loopsIn c).map Code.tag = [tag] := ht
  exact Loops.ok_row hc (i := 0) (by rw [ht]; simp) (by have := congrArg List.length ht; simp at this; omega) hat h
section
variable {s : List Value} (h : All2 Kd.ok kSt s)
include h
theorem gps : Gps gs [.agg s.toArray] (s ++ []) := ⟨s, _, rfl, ⟨h, .inl ⟨rfl, rfl⟩⟩, rfl⟩
theorem cells_len : (s ++ []).length = 26 := by rw [List.append_nil]; exact h.len.symm
theorem rho_s (t : List Int) {i : Nat} (hi : i < 26) : rhoOf (full s t) i = cellI s i := by
  unfold full
  rw [behind_cell (by rw [cells_len h]; exact hi), List.append_nil]
theorem rho_n (t : List Int) {j : Nat} {m : Int} (hm : ((stU (stOf s) ++ stM (stOf s)) ++ t)[j]? = some m) : rhoOf (full s t) (26 + j) = m := behind_int (a := 0) (cells_len h) rfl hm
theorem rho_e (t : List Int) {j : Nat} {m : Int} (hm : (stU (stOf s))[j]? = some m) : rhoOf (full s t) (26 + j) = m := by
  have hl := (List.getElem?_eq_some_iff.1 hm).1
  refine rho_n h t ?_
  rw [List.append_assoc, List.getElem?_append_left hl]
  exact hm
theorem rho_m (t : List Int) {j : Nat} {m : Int} (hm : (stM (stOf s))[j]? = some m) : rhoOf (full s t) (26 + (stU (stOf s)).length + j) = m := by
  have hl := (List.getElem?_eq_some_iff.1 hm).1
  rw [Nat.add_assoc]
  refine rho_n h t ?_
  rw [List.append_assoc, List.getElem?_append_right (by omega), List.getElem?_append_left (by omega), show (stU (stOf s)).length + j - (stU (stOf s)).length = j by omega]
  exact hm
theorem rho_t (t : List Int) {j : Nat} {m : Int} (hm : t[j]? = some m) : rhoOf (full s t) (26 + (stU (stOf s)).length + (stM (stOf s)).length + j) = m := by
  rw [show 26 + (stU (stOf s)).length + (stM (stOf s)).length + j = 26 + ((stU (stOf s) ++ stM (stOf s)).length + j) by rw [List.length_append]; omega]
  refine rho_n h t ?_
  rw [List.getElem?_append_right (by omega), show (stU (stOf s) ++ stM (stOf s)).length + j - (stU (stOf s) ++ stM (stOf s)).length = j by omega]
  exact hm
theorem rho_agree (t t' : List Int) {i : Nat} (hi : i < 26 + (stU (stOf s)).length + (stM (stOf s)).length) : rhoOf (full s t) i = rhoOf (full s t') i := by
  by_cases hlt : i < 26
  · rw [rho_s h t hlt, rho_s h t' hlt]
  · obtain ⟨j, rfl⟩ : ∃ j, i = 26 + j := ⟨i - 26, by omega⟩
    have hj : j < (stU (stOf s) ++ stM (stOf s)).length := by rw [List.length_append]; omega
    have e : ∀ t : List Int, ((stU (stOf s) ++ stM (stOf s)) ++ t)[j]? = some ((stU (stOf s) ++ stM (stOf s))[j]) := fun t => by rw [List.getElem?_append_left hj]; exact List.getElem?_eq_getElem hj
    rw [rho_n h t (e t), rho_n h t' (e t')]
theorem lens (t : List Int) : Lens [] (rhoOf (full s t)) (sigOf (full s t)) := lens_behind (n := 26) (a := 0) (gps h) rfl (cells_len h) rfl
theorem cells_ok [Base] {L : Lf} {t : List Int} (h1 : Base.rho = rhoOf (full s t)) (h2 : Base.sig = sigOf (full s t)) (hL : L.Holds Base.rho Base.sig) : All2 (VS r0) (clL L 0 kSt) s ∧ All2 (VS r0) (clL L 20 kOp) ((s.drop 20).take 5) ∧ All2 (VS r0) (clL L 4 kRv) ((s.drop 4).take 16) := by
  have e0 : full s t = s ++ ((([] : List (List UInt8)).map strV) ++ ((stU (stOf s) ++ stM (stOf s)) ++ t).map (Value.int .i64)) := by
    unfold full behind
    rw [List.append_nil]
  have hl : s.length = 26 := h.len.symm
  refine ⟨clL_ok (pre := []) hL h1 h2 e0 rfl h, clL_ok (pre := s.take 20) (us := (s.drop 20).take 5) (post := _) hL h1 h2 (e0.trans (part_eq _ _ 20 5)) (by rw [List.length_take, hl]; rfl) ?_, clL_ok (pre := s.take 4) (us := (s.drop 4).take 16) (post := _) hL h1 h2 (e0.trans (part_eq _ _ 4 16)) (by rw [List.length_take, hl]; rfl) (rv_part h).1⟩
  exact (h.drop 20).take 5
variable {x : Cs} (k : IsCase s x)
include k
theorem rho_i (t : List Int) {j : Nat} {m : Int} (hm : (stU (stOf s))[j]? = some m) : rhoOf (full s t) (idxE x.pi j) = m := by
  have hp := k.pi
  cases hpi : x.pi with
  | none => exact rho_e h t hm
  | some p =>
    show rhoOf (full s t) (bif Nat.beq p j then 1 else 26 + j) = m
    cases hb : Nat.beq p j with
    | false => exact rho_e h t hm
    | true =>
      have e := Nat.eq_of_beq_eq_true hb
      subst e
      have := hp p hpi
      rw [hm] at this
      injection this with e
      rw [e]
      exact rho_s h t (i := 1) (by decide)
theorem idx_lt {j : Nat} (hj : j < x.nu) : idxE x.pi j < 26 + x.nu + x.nm := by
  unfold idxE
  split
  · cases Nat.beq _ j <;> simp only [cond_true, cond_false] <;> omega
  · omega
theorem q_eq : q x = 26 + (stU (stOf s)).length + (stM (stOf s)).length := by rw [k.nu, k.nm]; rfl
theorem holds {more : List (Int × Int)} {lt : List (Nat × Nat)} {t0 t1 : List Int} (hm : All2 (fun p (m : Int) => p.1 ≤ m ∧ m ≤ p.2) more t0)
    (hlt : ∀ i j, (i, j) ∈ lt → rhoOf (full s (t0 ++ t1)) i < rhoOf (full s (t0 ++ t1)) j) : (Lc x.c (L0 x more lt)).Holds (rhoOf (full s (t0 ++ t1))) (sigOf (full s (t0 ++ t1))) := by
  have hz : (L0 x more lt).Holds (rhoOf (full s (t0 ++ t1))) (sigOf (full s (t0 ++ t1))) := by
    have hU := stU_in k.ok
    have hM := stM_sub k.ok
    have hI : All2 (fun p (m : Int) => p.1 ≤ m ∧ m ≤ p.2) (List.replicate (x.nu + x.nm) ((0, 15) : Int × Int) ++ more) ((stU (stOf s) ++ stM (stOf s)) ++ t0) := by
      refine All2.app ?_ hm
      rw [← k.nu, ← k.nm, ← List.length_append]
      refine all2_map (R := fun p (m : Int) => p.1 ≤ m ∧ m ≤ p.2) fun y hy => ?_
      rcases List.mem_append.1 hy with hy | hy
      · exact hU.1 y hy
      · exact hU.1 y (hM.1 y hy)
    have h1 : (Lf.startB gs [] (List.replicate (x.nu + x.nm) ((0, 15) : Int × Int) ++ more)).Holds (rhoOf (full s (t0 ++ t1))) (sigOf (full s (t0 ++ t1))) :=
      Lf.startB_some (gps h) (ivS := []) (strs := []) trivial (i0 := (stU (stOf s) ++ stM (stOf s)) ++ t0) (i1 := t1) (List.append_assoc _ _ _).symm hI
    refine ⟨h1.iv, h1.ne, fun i j m => ?_, h1.to, h1.st, h1.sn, h1.cf⟩
    have m : (i, j) ∈ lt ++ pairs x.pi x.nu := m
    rcases List.mem_append.1 m with m | m
    · exact hlt i j m
    obtain ⟨b, hb, m⟩ := List.mem_flatMap.1 m
    obtain ⟨a, ha, e⟩ := List.mem_map.1 m
    have hb := List.mem_range.1 hb
    have ha := List.mem_range.1 ha
    have hn := k.nu
    cases e
    have e1 : (stU (stOf s))[a]? = some ((stU (stOf s))[a]'(by omega)) := List.getElem?_eq_getElem _
    have e2 : (stU (stOf s))[b]? = some ((stU (stOf s))[b]'(by omega)) := List.getElem?_eq_getElem _
    rw [rho_i h k _ e1, rho_i h k _ e2]
    exact incr_lt hU.2 ha e1 e2
  have r0 := rho_s h (t0 ++ t1) (i := 0) (by decide)
  have r1 := rho_s h (t0 ++ t1) (i := 1) (by decide)
  have r2 := rho_s h (t0 ++ t1) (i := 2) (by decide)
  have r3 := rho_s h (t0 ++ t1) (i := 3) (by decide)
  rcases k.shape with ⟨e, e0, e1, e2, e3⟩ | ⟨e, e0⟩ | ⟨e, e0⟩ | ⟨e, e0⟩ | ⟨e, e0, e1, e2⟩ | ⟨e, e0, e1, e2, e3⟩ <;> rw [e]
  · exact holds_only (holds_only (((holds_only hz (r0.trans e0)).hi (i := 1) (c := 15) (by omega)).lo (i := 1) (c := 0) (by omega)) (r2.trans e2)) (r3.trans e3)
  · exact holds_only hz (r0.trans e0)
  · exact holds_only hz (r0.trans e0)
  · exact holds_only hz (r0.trans e0)
  · exact holds_only (((holds_only hz (r0.trans e0)).hi (i := 1) (c := 15) (by omega)).lo (i := 1) (c := 0) (by omega)) (r2.trans e2)
  · exact ((holds_only (((holds_only hz (r0.trans e0)).hi (i := 1) (c := 15) (by omega)).lo (i := 1) (c := 0) (by omega)) (r2.trans e2)).hi (i := 3) (c := 2) (by omega)).lo (i := 3) (c := 1) (by omega)
/-! the loop -/
def ts (s : List Value) (i : Nat) : List Int := [(i : Int), if i < 16 then ((i + 1 : Nat) : Int) else cellI s 0 + 1]
@[reducible] noncomputable def baseT (_ : All2 Kd.ok kSt s) (_ : IsCase s x) (w : World) (t : List Int) : Base :=
  { Know.nought with nb := 3, g := fun b => w.heap[b]?, rho := rhoOf (full s t), sig := sigOf (full s t), ok := KnowOk.nought _ _ }
theorem agreeT (w : World) (t t' : List Int) : Agree (baseT h k w t) (baseT h k w t') (bd x) :=
  ⟨rfl, rfl, fun i hi => rho_agree h t t' (by have : i < 26 + x.nu + x.nm := hi; rw [k.nu, k.nm]; exact this), fun i hi => absurd hi (Nat.not_lt_zero i), fun i hi => absurd hi (Nat.not_lt_zero i)⟩
theorem rho_q (i : Nat) : rhoOf (full s (ts s i)) (q x) = i := by
  rw [q_eq h k]
  exact rho_t h (ts s i) (j := 0) rfl
theorem rho_q1 (i : Nat) : rhoOf (full s (ts s i)) (q x + 1) = if i < 16 then ((i + 1 : Nat) : Int) else cellI s 0 + 1 := by
  rw [q_eq h k]
  exact rho_t h (ts s i) (j := 1) rfl
theorem tabs_ok (w : World) {i n : Nat} (e : rhoOf (full s (ts s i)) (q x + 1) = rhoOf (full s (ts s i)) n + 1) (h0 : 0 ≤ rhoOf (full s (ts s i)) n) (h1 : rhoOf (full s (ts s i)) n ≤ 255) : @TabsOk (baseT h k w (ts s i)) ⟨[], [], [(n, 1, q x + 1)]⟩ := by
  refine @TabsOk.mk (baseT h k w (ts s i)) _ (fun _ _ h => by cases h) (fun _ _ _ h => by cases h) fun a c j hj => ?_
  have hj : (bif Nat.beq n a && decide ((1 : Int) = c) then some (q x + 1) else none) = some j := hj
  cases hb : (Nat.beq n a && decide ((1 : Int) = c)) <;> rw [hb] at hj <;> cases hj
  simp only [Bool.and_eq_true, decide_eq_true_eq] at hb
  obtain rfl := Nat.eq_of_beq_eq_true hb.1
  obtain rfl := hb.2
  refine ⟨e, ?_, ?_⟩
  · show (-9223372036854775808 : Int) ≤ rhoOf (full s (ts s i)) (q x + 1); omega
  · show rhoOf (full s (ts s i)) (q x + 1) ≤ (9223372036854775807 : Int); omega
theorem turnT (w : World) {i n : Nat} {t' : List Int} {L : Lf} (hL : L.Holds (rhoOf (full s (ts s i))) (sigOf (full s (ts s i)))) (e : rhoOf (full s (ts s i)) (q x + 1) = rhoOf (full s (ts s i)) n + 1) (h0 : 0 ≤ rhoOf (full s (ts s i)) n) (h1 : rhoOf (full s (ts s i)) n ≤ 255)
    {c : Code} {hd s1 : St} (hnx : hd.h.next = s1.h.next) {y : X} {th : Th} (hth : Th.ok (baseT h k w (ts s i)) (baseT h k w t') th) (hrun : tellsR (bd x) th y s1 (@exec (L.know []) (ctxR L n x) 0 10 c hd) = true) :
    Turns Tryd.prog (baseT h k w (ts s i)) (baseT h k w t') c hd y s1 := by
  refine turns_runs mixedN (agreeT h k w _ _) hnx (sp := .leaf) hL (lens h _) (fun L => ctxR L n x) (fun _ => th) (fun L' h' => ?_) (fun L' h' => ?_) (fun L' h' => ?_) (fun L' _ _ => hth) (n := 10) ?_
  · exact @tyOf_ok ((baseT h k w (ts s i)).withK (L'.know []) (Lf.ok h' (lens h _))) Tryd.prog
  · let bL : Base := (baseT h k w (ts s i)).withK (L'.know []) (Lf.ok h' (lens h _))
    exact @CtxOk.mk bL _ (ctxR L' n x) (@runs_ok bL _ _ (@tyOf_ok bL Tryd.prog) _ fnOkN noneO (fun _ _ _ _ _ _ h => by cases h) mixedN 10 5) (tabs_withK (tabs_ok h k w e h0 h1) _)
  · letI bL : Base := (baseT h k w (ts s i)).withK (L'.know []) (Lf.ok h' (lens h _))
    exact Loops.ok_all (fun c => @LoopOk.none bL Tryd.prog c) c
  · show (tellsR (bd x) th y s1 (@exec (L.know []) (ctxR L n x) 0 10 c hd) && true) = true
    rw [hrun]
    rfl
theorem roundT (w : World) {i n : Nat} (hi : i < 16) {L : Lf} (hL : L.Holds (rhoOf (full s (ts s i))) (sigOf (full s (ts s i)))) (hn : rhoOf (full s (ts s i)) n = i) (hn2 : n < q x + 2) (hrun : stepAt x n L = true) :
    Turns Tryd.prog (baseT h k w (ts s i)) (baseT h k w (ts s (i + 1))) code (hd x (.xi .i64 (q x))) .normal (hd x (.xi .i64 (q x))) := by
  unfold stepAt at hrun
  simp only [Bool.and_eq_true] at hrun
  have e1 : rhoOf (full s (ts s i)) (q x + 1) = ((i + 1 : Nat) : Int) := by rw [rho_q1 h k, if_pos hi]
  refine fun {r B a w1} hr => turns_pre (b1 := baseT h k w (ts s i)) (d := ⟨q x + 2, 0, 0⟩) ⟨rfl, rfl, fun _ _ => rfl, fun _ _ => rfl, fun _ _ => rfl⟩ (th := [(.xi .i64 n, .xi .i64 (q x))]) (fun p hp r u hu => ?_) hrun.2 rfl
    (turnT h k w (n := n) (c := code) (hd := hd x (.xi .i64 n)) (s1 := hd x (.xi .i64 (q x))) hL (by rw [e1, hn]; omega) (by rw [hn]; omega) (by rw [hn]; omega) rfl (th := thUp x) (fun p hp r u hu => ?_) hrun.1) hr
  · obtain rfl := List.mem_singleton.1 hp
    have hu : u = .int .i64 (rhoOf (full s (ts s i)) (q x)) := hu
    show u = .int .i64 (rhoOf (full s (ts s i)) n)
    rw [hu, rho_q h k, hn]
  · obtain rfl := List.mem_singleton.1 hp
    have hu : u = .int .i64 (rhoOf (full s (ts s i)) (q x + 1)) := hu
    show u = .int .i64 (rhoOf (full s (ts s (i + 1))) (q x))
    rw [hu, e1, rho_q h k]
theorem more_ok {i : Nat} (hi : i < 16) : All2 (fun p (m : Int) => p.1 ≤ m ∧ m ≤ p.2) moreR (ts s i) := by
  unfold moreR ts
  rw [if_pos hi]
  exact ⟨⟨by show (0 : Int) ≤ i; omega, by show (i : Int) ≤ 15; omega⟩, ⟨by show (0 : Int) ≤ ((i + 1 : Nat) : Int); omega, by show ((i + 1 : Nat) : Int) ≤ 16; omega⟩, trivial⟩
theorem gap_ok {i n p : Nat} (hn : rhoOf (full s (ts s i)) n = i) (hp : ∀ j y, (stU (stOf s))[j]? = some y → (j < p → y < (i : Int)) ∧ (p ≤ j → (i : Int) < y)) : ∀ a b, (a, b) ∈ gap x n p → rhoOf (full s (ts s i ++ [])) a < rhoOf (full s (ts s i ++ [])) b := by
  intro a b m
  rw [List.append_nil]
  unfold gap at m
  obtain ⟨j, hj, m⟩ := List.mem_map.1 m
  have hj := List.mem_range.1 hj
  have hnu := k.nu
  have e1 : (stU (stOf s))[j]? = some ((stU (stOf s))[j]'(by omega)) := List.getElem?_eq_getElem _
  have hh := hp j _ e1
  have hr := rho_i h k (ts s i) e1
  cases hb : Nat.blt j p with
  | true =>
    rw [hb] at m
    cases m
    rw [hn, hr]
    exact hh.1 (by simpa using hb)
  | false =>
    rw [hb] at m
    cases m
    rw [hn, hr]
    refine hh.2 ?_
    have : ¬ j < p := fun q => by
      have : Nat.blt j p = true := by simpa using q
      rw [this] at hb
      cases hb
    omega
theorem stepT (hrun : loopOk x = true) (w : World) {i : Nat} (hi : i < 16) : Turns Tryd.prog (baseT h k w (ts s i)) (baseT h k w (ts s (i + 1))) code (hd x (.xi .i64 (q x))) .normal (hd x (.xi .i64 (q x))) := by
  unfold loopOk at hrun
  simp only [Bool.and_eq_true] at hrun
  obtain ⟨g1, g2, g3, _⟩ := hrun
  intro r B a w1 hr
  have hnu := k.nu
  have hq : q x = 26 + x.nu + x.nm := rfl
  by_cases hin : (i : Int) ∈ stU (stOf s)
  · obtain ⟨j, hj⟩ := List.getElem?_of_mem hin
    have hjl := (List.getElem?_eq_some_iff.1 hj).1
    have hL := holds h k (more_ok h k hi) (t1 := []) (lt := []) fun _ _ m => by cases m
    rw [List.append_nil] at hL
    exact roundT h k w hi hL (rho_i h k _ hj) (by have := idx_lt h k (j := j) (by omega); omega) (List.all_eq_true.1 g1 j (List.mem_range.2 (by omega))) hr
  · obtain ⟨p, hp, hg⟩ := gap_at (stU_in k.ok).2 hin
    have hpm : p ∈ List.range (x.nu + 1) := List.mem_range.2 (by omega)
    by_cases hl : x.c = 1 ∧ (i : Int) = cellI s 1
    · have r1 : rhoOf (full s (ts s i)) 1 = i := by rw [rho_s h _ (by decide), hl.2]
      have hL := holds h k (more_ok h k hi) (t1 := []) (lt := gap x 1 p) (gap_ok h k r1 hg)
      rw [List.append_nil] at hL
      have g3 : ((!(Nat.beq x.c 1)) || (List.range (x.nu + 1)).all fun p => stepAt x 1 (LLoc x p)) = true := g3
      rw [hl.1] at g3
      exact roundT h k w hi hL r1 (by omega) (List.all_eq_true.1 g3 p hpm) hr
    · have hL := holds h k (more_ok h k hi) (t1 := []) (lt := gap x (q x) p) (gap_ok h k (rho_q h k i) hg)
      rw [List.append_nil] at hL
      have hL2 : (LGap x p).Holds (rhoOf (full s (ts s i))) (sigOf (full s (ts s i))) := by
        unfold LGap
        cases hc : Nat.beq x.c 1 with
        | false => exact hL
        | true =>
          refine ⟨hL.iv, fun a b m => ?_, hL.lt, hL.to, hL.st, hL.sn, hL.cf⟩
          rcases List.mem_cons.1 m with m | m
          · cases m
            rw [rho_q h k, rho_s h _ (by decide)]
            exact fun e => hl ⟨Nat.eq_of_beq_eq_true hc, e⟩
          · exact hL.ne a b m
      exact roundT h k w hi hL2 (rho_q h k i) (by omega) (List.all_eq_true.1 g2 p hpm) hr
theorem lastT (hrun : loopOk x = true) (w : World) (t' : List Int) : Turns Tryd.prog (baseT h k w (ts s 16)) (baseT h k w t') code (hd x (.xi .i64 (q x))) (.exit 1) (s1 x) := by
  unfold loopOk lastAt at hrun
  simp only [Bool.and_eq_true] at hrun
  obtain ⟨_, _, _, g4⟩ := hrun
  have g0 : 0 ≤ cellI s 0 ∧ cellI s 0 ≤ 255 := by
    rcases k.shape with hs | hs | hs | hs | hs | hs <;> omega
  have hU := stU_in k.ok
  have hM := stM_sub k.ok
  have hL : (L0 x [(16, 16)] []).Holds (rhoOf (full s (ts s 16))) (sigOf (full s (ts s 16))) := by
    have hI : All2 (fun p (m : Int) => p.1 ≤ m ∧ m ≤ p.2) (List.replicate (x.nu + x.nm) ((0, 15) : Int × Int) ++ [(16, 16)]) ((stU (stOf s) ++ stM (stOf s)) ++ [16]) := by
      refine All2.app ?_ ⟨⟨Int.le_refl _, Int.le_refl _⟩, trivial⟩
      rw [← k.nu, ← k.nm, ← List.length_append]
      refine all2_map (R := fun p (m : Int) => p.1 ≤ m ∧ m ≤ p.2) fun y hy => ?_
      rcases List.mem_append.1 hy with hy | hy
      · exact hU.1 y hy
      · exact hU.1 y (hM.1 y hy)
    have h1 : (Lf.startB gs [] (List.replicate (x.nu + x.nm) ((0, 15) : Int × Int) ++ [(16, 16)])).Holds (rhoOf (full s (ts s 16))) (sigOf (full s (ts s 16))) :=
      Lf.startB_some (gps h) (ivS := []) (strs := []) trivial (i0 := (stU (stOf s) ++ stM (stOf s)) ++ [16]) (i1 := [cellI s 0 + 1]) (by rw [List.append_assoc (stU (stOf s) ++ stM (stOf s))]; rfl) hI
    refine ⟨h1.iv, h1.ne, fun i j m => ?_, h1.to, h1.st, h1.sn, h1.cf⟩
    have m : (i, j) ∈ [] ++ pairs x.pi x.nu := m
    rw [List.nil_append] at m
    obtain ⟨b, hb, m⟩ := List.mem_flatMap.1 m
    obtain ⟨a, ha, e⟩ := List.mem_map.1 m
    have hb := List.mem_range.1 hb
    have ha := List.mem_range.1 ha
    have hn := k.nu
    cases e
    have e1 : (stU (stOf s))[a]? = some ((stU (stOf s))[a]'(by omega)) := List.getElem?_eq_getElem _
    have e2 : (stU (stOf s))[b]? = some ((stU (stOf s))[b]'(by omega)) := List.getElem?_eq_getElem _
    rw [rho_i h k _ e1, rho_i h k _ e2]
    exact incr_lt hU.2 ha e1 e2
  have r0 := rho_s h (ts s 16) (i := 0) (by decide)
  intro r B a w1 hr
  exact turnT h k w (n := 0) (t' := t') (c := code) (hd := hd x (.xi .i64 (q x))) (s1 := s1 x) hL (by rw [rho_q1 h k, if_neg (by omega), r0]) (by rw [r0]; omega) (by rw [r0]; omega) rfl (th := []) (fun p hp => by cases hp) g4 hr
/-! the law -/
theorem holdsX : (LX x).Holds (rhoOf (full s [])) (sigOf (full s [])) := holds h k (more := []) (lt := []) (t0 := []) (t1 := []) trivial fun _ _ m => by cases m
variable {w : World} (kt : TabOk w)
include kt
theorem ents_ok (ps : List Nat) (l : List Int) (e : ps.map (fun i => (stU (stOf s))[i]?) = l.map some) : ∀ r, All2 (@VS (baseT h k w []) r) (ents x.pi ps) (intsV l) := fun r => by
  have hlen : ps.length = l.length := by have := congrArg List.length e; simpa using this
  refine all2_by_nth (by simp [ents, intsV, hlen]) fun i y v hx hv => ?_
  unfold ents at hx
  unfold intsV at hv
  rw [List.getElem?_map] at hx hv
  cases hpi : ps[i]? with
  | none => rw [hpi] at hx; cases hx
  | some j =>
    cases hli : l[i]? with
    | none => rw [hli] at hv; cases hv
    | some y =>
      rw [hpi] at hx
      rw [hli] at hv
      cases hx
      cases hv
      have := congrArg (fun q => q[i]?) e
      simp only [List.getElem?_map, hpi, hli, Option.map_some, Option.some.injEq] at this
      show Value.int .i64 y = .int .i64 (rhoOf (full s []) (idxE x.pi j))
      rw [show rhoOf (full s []) (idxE x.pi j) = y from rho_i h k [] this]
theorem range_ok : (List.range x.nu).map (fun i => (stU (stOf s))[i]?) = (stU (stOf s)).map some := by
  rw [← k.nu]
  refine List.ext_getElem? fun i => ?_
  rw [List.getElem?_map, List.getElem?_map]
  by_cases hi : i < (stU (stOf s)).length
  · rw [List.getElem?_range hi, List.getElem?_eq_getElem hi]
    simp [hi]
  · rw [List.getElem?_eq_none (by simpa using hi), List.getElem?_eq_none (by simpa using hi)]
    rfl
theorem nums_ok : ∀ r, All2 (@VS (baseT h k w []) r) (numsX (26 + x.nu) x.nm) (intsV (stM (stOf s))) := fun r => by
  have hn := k.nm
  unfold numsX
  refine all2_by_nth (by simp [intsV, hn]) fun i y v hx hv => ?_
  unfold intsV at hv
  rw [List.getElem?_map] at hx hv
  cases hli : (stM (stOf s))[i]? with
  | none => rw [hli] at hv; cases hv
  | some z =>
    have hil := (List.getElem?_eq_some_iff.1 hli).1
    rw [hli] at hv
    rw [List.getElem?_range (by omega)] at hx
    cases hx
    cases hv
    show Value.int .i64 z = .int .i64 (rhoOf (full s []) (26 + x.nu + i))
    rw [show rhoOf (full s []) (26 + x.nu + i) = z from by rw [← k.nu]; exact rho_m h [] hli]
noncomputable abbrev bX : Base := (baseT h k w []).withK ((LX x).know []) (Lf.ok (holdsX h k) (lens h []))
theorem v8_t : (v8 true : Value) = v8 true := rfl
theorem rows_ok : ∀ O, (O ∈ (rows x).take 4 ∨ (O ∈ rows x ∧ x.c ≠ 3)) → @Sound (bX h k (w := w)) Tryd.prog O := by
  letI : Base := bX h k (w := w)
  intro O hO
  obtain ⟨c0, c20, c4⟩ := cells_ok h (t := []) rfl rfl (show (LX x).Holds Base.rho Base.sig from holdsX h k)
  have tabs : ∀ w' : World, (∀ b, b < Base.nb → w'.heap[b]? = Base.g b) → TabOk w' := fun w' hw => kt.all hw
  have hval := k.val
  have h4 : ∀ O ∈ (rows x).take 4, Sound Tryd.prog O := fun O hO => by
    have hO : O ∈ [alive05O, cellO 51 (sCells x) (m8 true), listO 41 (sCells x) (ents x.pi (List.range x.nu)), listO 43 (sCells x) (numsX (26 + x.nu) x.nm)] := hO
    simp only [List.mem_cons, List.not_mem_nil, or_false] at hO
    rcases hO with rfl | rfl | rfl | rfl
    · exact sound_alive05 kt _
    · exact sound_cell ⟨_, Tryd.func51, by kernel_rfl, by kernel_rfl⟩ (ones_T _ kSt 0 rfl) c0 (u := v8 true) (fun _ => rfl) fun w' _ => by rw [← hval]; exact stP_tests s h w' trivial
    · exact sound_list ⟨_, Tryd.func41, by kernel_rfl, by kernel_rfl⟩ (ones_T _ kSt 0 rfl) c0 (ents_ok h k kt _ (stU (stOf s)) (range_ok h k kt)) (Q := TabOk) (fun w' hw => tabs w' hw) (tusA_lists s h hval)
    · exact sound_list ⟨_, Tryd.func43, by kernel_rfl, by kernel_rfl⟩ (ones_T _ kSt 0 rfl) c0 (nums_ok h k kt) (Q := TabOk) (fun w' hw => tabs w' hw) (tmvA_lists s h hval)
  rcases hO with hO | ⟨hO, hc3⟩
  · exact h4 O hO
  have hO : O ∈ (rows x).take 4 ++ [listO 34 (rCells x) (ents x.pi x.rs), listO 35 (rCells x) (numsX (26 + x.nu) x.nm)] := hO
  rcases List.mem_append.1 hO with hO | hO
  · exact h4 O hO
  have b3 : Nat.beq x.c 3 = false := by
    cases hb : Nat.beq x.c 3
    · rfl
    · exact absurd (Nat.eq_of_beq_eq_true hb) hc3
  have hrs := k.rs
  have hml := k.ml
  have hpt := k.part
  rw [b3] at hrs hml hpt
  simp only [cond_false] at hrs hml hpt
  have key : ∃ us, All2 (VS r0) (rCells x) us ∧ (rCells x).all S.one = true ∧ All2 Kd.ok kRv us ∧ (okRvE 0).val us = true ∧ x.rs.map (fun i => (stU (stOf s))[i]?) = (rvU (rvAt us 0)).map some ∧ stM (stOf s) = rvM (rvAt us 0) := by
    unfold rCells
    cases hb : (Nat.beq x.c 2 || Nat.beq x.c 4) with
    | true =>
      rw [hb] at hrs hml hpt
      simp only [cond_true] at hrs hml hpt ⊢
      obtain ⟨k1, k2, k3, k4⟩ := op_part h hpt
      refine ⟨asRv s, All2.app ⟨rfl, rfl, rfl, trivial⟩ (All2.app c20 ⟨rfl, rfl, rfl, rfl, rfl, rfl, rfl, rfl, trivial⟩), ?_, k1, k2, by rw [k3]; exact hrs, by rw [k4]; exact hml⟩
      rw [List.all_append, List.all_append, show (clL (LX x) 20 kOp).all S.one = true from ones_T _ kOp 20 rfl]
      rfl
    | false =>
      rw [hb] at hrs hml hpt
      simp only [cond_false] at hrs hml hpt ⊢
      obtain ⟨k1, k2, k3⟩ := rv_part h
      exact ⟨(s.drop 4).take 16, c4, ones_T _ kRv 4 rfl, k1, by rw [k2]; exact hpt, by rw [k3]; exact hrs, by rw [k3]; exact hml⟩
  obtain ⟨us, q1, q2, q3, q4, q5, q6⟩ := key
  simp only [List.mem_cons, List.not_mem_nil, or_false] at hO
  rcases hO with rfl | rfl
  · exact sound_list ⟨_, Tryd.func34, by kernel_rfl, by kernel_rfl⟩ q2 q1 (ents_ok h k kt _ _ q5) (Q := TabOk) (fun w' hw => tabs w' hw) (ruA_lists us q3 q4)
  · exact sound_list ⟨_, Tryd.func35, by kernel_rfl, by kernel_rfl⟩ q2 q1 (by show ∀ r, All2 (VS r) (numsX (26 + x.nu) x.nm) (intsV (rvM (rvAt us 0))); rw [← q6]; exact nums_ok h k kt) (Q := TabOk) (fun w' hw => tabs w' hw) (rmA_lists us q3 q4)
theorem walkX (hloop : loopOk x = true) (hlaw : lawOk x = true) (hc : x.c ≠ 3) : Calls Tryd.prog 12 #[.agg s.toArray] w fun e w' => e = .returned (.bool true) ∧ Below w.heap.size w w' := by
  letI bL : Base := bX h k (w := w)
  have hL : (LX x).Holds Base.rho Base.sig := holdsX h k
  have h1 : All2 (VA r0) (argsT 0 gs) [.agg s.toArray] := argsT_ok (pre := []) (cs' := s ++ []) (cs := full s []) rfl rfl _ rfl (gps h)
  refine @calls_bool bL _ w kt.size (fun _ _ => rfl) _ (@runsL_ok bL _ _ (@tyOf_ok bL Tryd.prog) _ fnOkN _ (@sound_orcs bL _ _ fun O hO => rows_ok h k kt O (.inr ⟨hO, hc⟩)) mixedN _ TabsOk.nought _ (fun f F cd hF hcd => ?_) 20 10) _ _ _ (Lf.nAs_ok hL h1) _ hlaw
  refine @rowsL_ok _ bL [(12, rowL 20 (bd x) [(.xi .i64 (q x), .int .i64 0)] (hd x (.xi .i64 (q x))) (.exit 1) (s1 x))] (fun p hp => ?_) f F cd hF hcd
  obtain rfl := List.mem_singleton.1 hp
  refine row_of Tryd.func12 f_tag code_tag ?_
  have ag0 : Agree bL (baseT h k w (ts s 0)) (bd x) := ⟨rfl, rfl, (agreeT h k w [] (ts s 0)).n, fun i hi => absurd hi (Nat.not_lt_zero i), fun i hi => absurd hi (Nat.not_lt_zero i)⟩
  refine @rowL_ok _ bL (fun i => baseT h k w (ts s i)) _ _ _ _ _ _ (fun e => by cases e) 16 ag0 (fun p hp r u hu => ?_) (fun i hi => stepT h k hloop w hi) ?_ 20
  · obtain rfl := List.mem_singleton.1 hp
    have hu : u = .int .i64 0 := hu
    show u = .int .i64 (rhoOf (full s (ts s 0)) (q x))
    rw [hu, rho_q h k]
    rfl
  · intro r B a w1 hr
    refine wp_mono (lastT h k hloop w [] hr) fun e a' w' ⟨g1, r', g2, g3, g4⟩ => ⟨g1, r', Rel.withK (baseT h k w []) _ g2, g3, g4⟩
end
section
variable {s : List Value} (h : All2 Kd.ok kSt s) {w : World} (kt : TabOk w)
include h kt
theorem walk3 (k : IsCase s x3) : Calls Tryd.prog 12 #[.agg s.toArray] w fun e w' => e = .returned (.bool true) ∧ Below w.heap.size w w' := by
  letI bL : Base := bX h k (w := w)
  have hL : (LX x3).Holds Base.rho Base.sig := holdsX h k
  have h1 : All2 (VA r0) (argsT 0 gs) [.agg s.toArray] := argsT_ok (pre := []) (cs' := s ++ []) (cs := full s []) rfl rfl _ rfl (gps h)
  exact @calls_bool bL _ w kt.size (fun _ _ => rfl) _ (@runsL_ok bL _ _ (@tyOf_ok bL Tryd.prog) _ fnOkN _ (@sound_orcs bL _ _ fun O hO => rows_ok h k kt O (.inl hO)) mixedN _ TabsOk.nought _ (fun f F cd hF hcd => Loops.ok_all (fun c => @LoopOk.none bL Tryd.prog c) cd) 20 10) _ _ _ (Lf.nAs_ok hL h1) _ law3_run
theorem walk0 (hv : okStE.val s = false) : Calls Tryd.prog 12 #[.agg s.toArray] w fun e w' => e = .returned (.bool true) ∧ Below w.heap.size w w' := by
  have hL0 : (LX x0).Holds (rhoOf (behind (s ++ []) [] [])) (sigOf (behind (s ++ []) [] [])) := by
    have h1 : (Lf.startB gs [] []).Holds (rhoOf (behind (s ++ []) [] [])) (sigOf (behind (s ++ []) [] [])) := Lf.startB_some (gps h) (ivS := []) (ivI := []) (strs := []) trivial (i0 := []) (i1 := []) rfl trivial
    exact ⟨h1.iv, h1.ne, fun _ _ m => (by cases m), h1.to, h1.st, h1.sn, h1.cf⟩
  have hl : Lens [] (rhoOf (behind (s ++ []) [] [])) (sigOf (behind (s ++ []) [] [])) := lens_behind (n := 26) (a := 0) (gps h) rfl (cells_len h) rfl
  letI bL : Base := base0 w (Lf.ok hL0 hl)
  have hL : (LX x0).Holds Base.rho Base.sig := hL0
  have e0 : behind (s ++ []) [] [] = s ++ ((([] : List (List UInt8)).map strV) ++ ([] : List Int).map (Value.int .i64)) := by
    unfold behind
    rw [List.append_nil]
  have c0 : All2 (VS r0) (clL (LX x0) 0 kSt) s := clL_ok (pre := []) (us := s) (post := (([] : List (List UInt8)).map strV) ++ ([] : List Int).map (Value.int .i64)) hL rfl rfl e0 rfl h
  have h1 : All2 (VA r0) (argsT 0 gs) [.agg s.toArray] := argsT_ok (pre := []) (cs' := s ++ []) (cs := behind (s ++ []) [] []) rfl rfl _ rfl (gps h)
  refine @calls_bool bL _ w kt.size (fun _ _ => rfl) _ (@runsL_ok bL _ _ (@tyOf_ok bL Tryd.prog) _ fnOkN _ (@sound_orcs bL _ _ fun O hO => ?_) mixedN _ TabsOk.nought _ (fun f F cd hF hcd => Loops.ok_all (fun c => @LoopOk.none bL Tryd.prog c) cd) 20 10) _ _ _ (Lf.nAs_ok hL h1) _ law0_run
  have hO : O ∈ [alive05O, cellO 51 (sCells x0) (m8 false)] := hO
  simp only [List.mem_cons, List.not_mem_nil, or_false] at hO
  rcases hO with rfl | rfl
  · exact sound_alive05 kt _
  · exact sound_cell ⟨_, Tryd.func51, by kernel_rfl, by kernel_rfl⟩ (ones_T _ kSt 0 rfl) c0 (u := v8 false) (fun _ => rfl) fun w' _ => by rw [← hv]; exact stP_tests s h w' trivial
theorem walk1 : Calls Tryd.prog 12 #[.agg s.toArray] w fun e w' => e = .returned (.bool true) ∧ Below w.heap.size w w' := by
  cases hv : okStE.val s with
  | false => exact walk0 h kt hv
  | true =>
    obtain ⟨ho, hsh⟩ := st_val hv h
    have hMl := incr_short (stM_sub ho).2 (stM_sub ho).1
    have g3 : 0 ≤ cellI s 3 := ok_u8 h rfl
    have g2 : cellI s 2 = 0 ∨ cellI s 2 = 1 := ok_b h rfl
    rcases hsh with ⟨hk, hpl, hr⟩ | ⟨hk, ha⟩ | hk
    · -- an assignment
      have hro : (rvAt s 4).Ok := rv_val hr (stR_ok h)
      have hp : InP (cellI s 1) (cellI s 3) := pl_val hpl g3
      have p0 : 0 ≤ cellI s 1 ∧ cellI s 1 ≤ 15 := ⟨hp.l0, hp.l1⟩
      have p3 : cellI s 3 ≤ 2 := hp.f1
      have hM : stM (stOf s) = rvM (rvAt s 4) := by unfold Am.stM; rw [if_pos (show (stOf s).k = 1 from hk)]; rfl
      have hMr : (rvM (rvAt s 4)).length ≤ (rvU (rvAt s 4)).length := incr_short (rvM_sub hro).2 (rvM_sub hro).1
      by_cases hpart : (stOf s).d = true ∨ 0 < (stOf s).f
      · have hU : stU (stOf s) = insU (cellI s 1) (rvU (rvAt s 4)) := by unfold stU; rw [if_pos (show (stOf s).k = 1 from hk), if_pos hpart]; rfl
        obtain ⟨p, rs, hm, hp1, hrs⟩ := ins_cases (cellI s 1) (rvU_in hro).2 (rvU_len _)
        rw [← hU] at hm hp1 hrs
        have go : ∀ c, (c = 5 ∧ cellI s 2 = 1 ∨ c = 6 ∧ cellI s 2 = 0 ∧ (1 ≤ cellI s 3 ∧ cellI s 3 ≤ 2)) → ((cases5 c).all loopOk) = true → ((cases5 c).all lawOk) = true → Calls Tryd.prog 12 #[.agg s.toArray] w fun e w' => e = .returned (.bool true) ∧ Below w.heap.size w w' := fun c hc r1 r2 => by
          have hmem : (⟨c, (stU (stOf s)).length, some p, rs, (stM (stOf s)).length⟩ : Cs) ∈ cases5 c := by
            unfold cases5
            refine List.mem_flatMap.2 ⟨_, hm, List.mem_map.2 ⟨(stM (stOf s)).length, List.mem_range.2 ?_, rfl⟩⟩
            show (stM (stOf s)).length < (rvU (rvAt s 4)).length + 1
            rw [hM]
            omega
          have hn3 : Nat.beq c 3 = false := by rcases hc with hc | hc <;> rw [hc.1] <;> rfl
          have hn24 : (Nat.beq c 2 || Nat.beq c 4) = false := by rcases hc with hc | hc <;> rw [hc.1] <;> rfl
          refine walkX h (x := ⟨c, (stU (stOf s)).length, some p, rs, (stM (stOf s)).length⟩) ⟨ho, hv, rfl, rfl, fun q e => (by cases e; exact hp1), ?_, ?_, ?_, ?_⟩ kt (List.all_eq_true.1 r1 _ hmem) (List.all_eq_true.1 r2 _ hmem) (by show c ≠ 3; rcases hc with hc | hc <;> omega)
          · rcases hc with hc | hc
            · exact .inr (.inr (.inr (.inr (.inl ⟨hc.1, hk, p0, hc.2⟩))))
            · exact .inr (.inr (.inr (.inr (.inr ⟨hc.1, hk, p0, hc.2⟩))))
          · simp only [hn3, hn24, cond_false]; exact hrs
          · simp only [hn3, hn24, cond_false]; exact hM
          · simp only [hn3, hn24, cond_false]; exact hr
        rcases g2 with e | e
        · refine go 6 (.inr ⟨rfl, e, ?_, p3⟩) a6_loop a6_law
          rcases hpart with hd | hf
          · have hd : decide (cellI s 2 = 1) = true := hd
            rw [e] at hd
            exact absurd hd (by decide)
          · have hf : 0 < cellI s 3 := hf
            omega
        · exact go 5 (.inl ⟨rfl, e⟩) a5_loop a5_law
      · have hU : stU (stOf s) = rvU (rvAt s 4) := by unfold stU; rw [if_pos (show (stOf s).k = 1 from hk), if_neg hpart]; rfl
        have hl : (stU (stOf s)).length ≤ 2 := by rw [hU]; exact rvU_len _
        have d0 : cellI s 2 = 0 := by
          rcases g2 with e | e
          · exact e
          · exact absurd (.inl (show decide (cellI s 2 = 1) = true by rw [e]; rfl)) hpart
        have f0 : cellI s 3 = 0 := by
          have : ¬ 0 < cellI s 3 := fun e => hpart (.inr e)
          omega
        have hmem : (⟨1, (stU (stOf s)).length, none, List.range (stU (stOf s)).length, (stM (stOf s)).length⟩ : Cs) ∈ cases1 := by
          unfold cases1
          refine List.mem_map.2 ⟨((stU (stOf s)).length, (stM (stOf s)).length), ?_, rfl⟩
          have : ((stU (stOf s)).length = 0 ∧ (stM (stOf s)).length = 0) ∨ ((stU (stOf s)).length = 1 ∧ (stM (stOf s)).length = 0) ∨ ((stU (stOf s)).length = 1 ∧ (stM (stOf s)).length = 1) ∨ ((stU (stOf s)).length = 2 ∧ (stM (stOf s)).length = 0) ∨ ((stU (stOf s)).length = 2 ∧ (stM (stOf s)).length = 1) ∨ ((stU (stOf s)).length = 2 ∧ (stM (stOf s)).length = 2) := by omega
          rcases this with ⟨e1, e2⟩ | ⟨e1, e2⟩ | ⟨e1, e2⟩ | ⟨e1, e2⟩ | ⟨e1, e2⟩ | ⟨e1, e2⟩ <;> rw [e1, e2] <;> decide
        refine walkX h (x := ⟨1, (stU (stOf s)).length, none, List.range (stU (stOf s)).length, (stM (stOf s)).length⟩) ⟨ho, hv, rfl, rfl, fun q e => (by cases e), .inl ⟨rfl, hk, p0, d0, f0⟩, ?_, hM, hr⟩ kt (List.all_eq_true.1 a1_loop _ hmem) (List.all_eq_true.1 a1_law _ hmem) (by show (1 : Nat) ≠ 3; decide)
        show (List.range (stU (stOf s)).length).map (fun i => (stU (stOf s))[i]?) = (rvU (rvAt s 4)).map some
        rw [← hU]
        exact range_eq _
    · have hao : (opdAt s 20).Ok := op_val ha (ok_i64 h rfl) (ok_u8 h rfl)
      have hU : stU (stOf s) = opU (opdAt s 20) := by
        have hk' : (stOf s).k = cellI s 0 := rfl
        unfold stU
        rw [if_neg (by omega), if_neg (by omega)]
        rfl
      have hM : stM (stOf s) = opM (opdAt s 20) := by
        have hk' : (stOf s).k = cellI s 0 := rfl
        unfold Am.stM
        rw [if_neg (by omega), if_neg (by omega)]
        rfl
      have hl : (stU (stOf s)).length ≤ 1 := by rw [hU]; exact opU_len _
      have go : ∀ c, (c = 2 ∧ cellI s 0 = 2 ∨ c = 4 ∧ cellI s 0 = 4) → ((cases2 c).all loopOk) = true → ((cases2 c).all lawOk) = true → Calls Tryd.prog 12 #[.agg s.toArray] w fun e w' => e = .returned (.bool true) ∧ Below w.heap.size w w' := fun c hc r1 r2 => by
        have hmem : (⟨c, (stU (stOf s)).length, none, List.range (stU (stOf s)).length, (stM (stOf s)).length⟩ : Cs) ∈ cases2 c := by
          unfold cases2
          refine List.mem_map.2 ⟨((stU (stOf s)).length, (stM (stOf s)).length), ?_, rfl⟩
          have : ((stU (stOf s)).length = 0 ∧ (stM (stOf s)).length = 0) ∨ ((stU (stOf s)).length = 1 ∧ (stM (stOf s)).length = 0) ∨ ((stU (stOf s)).length = 1 ∧ (stM (stOf s)).length = 1) := by omega
          rcases this with ⟨e1, e2⟩ | ⟨e1, e2⟩ | ⟨e1, e2⟩ <;> rw [e1, e2] <;> decide
        have hn3 : Nat.beq c 3 = false := by rcases hc with hc | hc <;> rw [hc.1] <;> rfl
        have hn24 : (Nat.beq c 2 || Nat.beq c 4) = true := by rcases hc with hc | hc <;> rw [hc.1] <;> rfl
        refine walkX h (x := ⟨c, (stU (stOf s)).length, none, List.range (stU (stOf s)).length, (stM (stOf s)).length⟩) ⟨ho, hv, rfl, rfl, fun q e => (by cases e), ?_, ?_, ?_, ?_⟩ kt (List.all_eq_true.1 r1 _ hmem) (List.all_eq_true.1 r2 _ hmem) (by show c ≠ 3; rcases hc with hc | hc <;> omega)
        · rcases hc with hc | hc
          · exact .inr (.inl hc)
          · exact .inr (.inr (.inr (.inl hc)))
        · simp only [hn3, hn24, cond_false, cond_true]
          rw [← hU]
          exact range_eq _
        · simp only [hn3, hn24, cond_false, cond_true]; exact hM
        · simp only [hn3, hn24, cond_false, cond_true]; exact ha
      rcases hk with hk | hk
      · exact go 2 (.inl ⟨rfl, hk⟩) a2_loop a2_law
      · exact go 4 (.inr ⟨rfl, hk⟩) a4_loop a4_law
    · have hk' : (stOf s).k = cellI s 0 := rfl
      have hU : stU (stOf s) = [] := by unfold stU; rw [if_neg (by omega), if_pos (by omega)]
      have hM : stM (stOf s) = [] := by unfold Am.stM; rw [if_neg (by omega), if_pos (by omega)]
      exact walk3 h kt ⟨ho, hv, by rw [hU]; rfl, by rw [hM]; rfl, fun q e => (by cases e), .inr (.inr (.inl ⟨rfl, hk⟩)), trivial, trivial, trivial⟩
end
theorem walk {w : World} (k : TabOk w) {vs cs : List Value} (hg : Gps gs vs cs) : Calls Tryd.prog 12 vs.toArray w fun e w' => e = .returned (.bool true) ∧ Below w.heap.size w w' := by
  match vs, hg with
  | [v0], ⟨s, _, _, ⟨h1, h2⟩, _⟩ =>
    rcases h2 with ⟨_, rfl⟩ | ⟨e, _⟩
    · exact walk1 h1 k
    · cases e
end Go.Proofs.YtaamdiknefodgaaDoor.stmtRvalue

namespace Go.Proofs.YtaamdiknefodgaaDoor.stmtRvalue
open Go.ChangeShapes Go.WideShapes Go.ChangeAt Go.RowKit Go.Proofs.YtaamdiknefodgaaDoor.Am
set_option linter.unusedVariables false

theorem door_met (os : Os) (args : Array Value) : laidMetH Tryd.prog Rows.stmtRvalueRow.laid ((World.doorLaid Tryd.prog 400 os).forCall (fun _ _ => 0) ⟨#[], args, []⟩).memory :=
  laidMetH_of_parts3 (fuel := 8) (laidMet_of_run' 8 (by kernel_rfl) (by kernel_rfl)) (by kernel_rfl) (by kernel_rfl)

set_option maxRecDepth 100000 in
theorem lifted (os : Os) (started : os.Started) (H : Type) (enc : TypeId × Value → H) :
    ReturnsInHanded {} Tryd.checked os 12 .any (fun w args => (Rows.stmtRvalueSpec.pre enc Tryd.prog Tryd.f12 [] false w args ∧ laidMetH Tryd.prog Rows.stmtRvalueRow.laid w) ∧ sizedMet enc Tryd.prog Tryd.f12 (OpenSpec.ofChange Rows.stmtRvalueSpec) false w args)
      (Rows.stmtRvalueSpec.post enc Tryd.prog Tryd.f12 false true false false) := by
  refine returnsInHanded_of_change_and (C := Tryd.checked) (X := fun w _ => laidMetH Tryd.prog Rows.stmtRvalueRow.laid w) (fun _ _ _ hh h => h.of_heap hh) own started (by kernel_rfl) Tryd.func12
    (ChangeSpec.witness_shaped (enc := enc) (C := Tryd.checked) (os := os) (X := fun w _ => laidMetH Tryd.prog Rows.stmtRvalueRow.laid w) false (World.doorLaid Tryd.prog 400 os) #[.agg #[.int .u8 0, .int .i64 0, .bool false, .int .u8 0, .int .u8 0, .int .u8 0, .int .u8 0, .int .u8 0, .int .i64 0, .int .i64 0, .bool false, .int .u8 0, .int .u8 0, .int .i64 0, .int .i64 0, .bool false, .int .u8 0, .int .i64 0, .bool false, .int .u8 0, .int .u8 0, .int .i64 0, .int .i64 0, .bool false, .int .u8 0, .int .i64 0]] 8 rfl (World.shaped_of_RefB (by kernel_rfl) (by kernel_rfl)) (by kernel_rfl) (by kernel_rfl) (by kernel_rfl) (door_met os _)) ?_
  intro W base args ds gs0 before hval0 hW _ _ hL _
  have hval : ∀ (j : Nat) t v, Tryd.f12.params[j]? = some t → args[j]? = some v → Value.okWide Tryd.prog W .any base t v := hval0
  have hW' := hW
  obtain ⟨p, q, hA0, hV, rfl, hfz, hnd⟩ := hW
  have hA : DataW.TrodAll enc Tryd.prog W 0 (fun _ => true) true Tryd.f12.params.toList args.toList ds p := hA0
  rw [Tryd.params12] at hA hval
  obtain ⟨v0, vs0, d0, ds0, p0, q0, hargs, rfl, rfl, h0, r0⟩ := trodAll_cons hA
  obtain ⟨rfl, rfl, rfl⟩ := trodAll_nil r0
  obtain rfl : args = #[v0] := by cases args; simp_all
  obtain ⟨rfl, rfl⟩ := trodVars_none hV
  obtain ⟨us0, e0, k0⟩ := open_flat (ts := [5, 3, 4, 5, 5, 5, 5, 5, 2, 3, 4, 5, 5, 2, 3, 4, 5, 3, 4, 5, 5, 2, 3, 4, 5, 3]) Tryd.underlying63 (by kernel_rfl) (by kernel_rfl) (by kernel_rfl) (hval 0 63 v0 rfl rfl)
  have lt0 : ∀ x ∈ p0, x.block < W.heap.size := by obtain ⟨m, hm⟩ := h0; exact DataW.trod_lt m _ _ _ hm
  have hE0 := tabOk (by kernel_rfl) (by simp [Rows.stmtRvalueRow]) (by simp [Rows.stmtRvalueRow]) hL
  have hG : Gps gs [v0] _ := ⟨us0, _, rfl, ⟨k0, .inl ⟨rfl, e0⟩⟩, rfl⟩
  refine (walk hE0 hG).mono fun e W' ⟨he, bel⟩ => ?_
  subst he
  exact ⟨_, rfl, _, _, _, [], _, [], hW', trodAll_mk1 (shut_bool Tryd.underlying4 _), (trodAll_cons_mk (Below.trod laidOut (by kernel_rfl) (of_decide_eq_true (by kernel_rfl)) h0 bel lt0) trodAll_mk0), rfl, bel.frame _, fun h => by cases h⟩

theorem over : Rows.StmtRvalueSaid :=
  OpenClaim.holds_of_wide 12 Tryd.f12 rfl rfl rfl rfl rfl rfl rfl ⟨rfl, rfl, rfl, rfl, rfl⟩ rfl rfl rfl rfl rfl (by kernel_rfl) Tryd.func12 (by kernel_rfl)
    (of_decide_eq_true (by kernel_rfl)) (by unfold Func.isWrapper; first | (rw [if_pos (by decide +kernel)]; kernel_rfl) | (rw [if_neg (by decide +kernel)]; exact ⟨rfl, rfl⟩))
    (fun os started H enc _ => lifted os started H enc)

theorem proved : Rows.StmtRvalueCardSaid :=
  Claim7.holds_tied_plain_at .later [] [.data, .data, .data] true (true, "e0958274218a65c52688ca629b0d17d0647d80259e6504c4f824747d58cc3345") false
    over (fun _ h => by cases h) (by kernel_rfl) (fun _ h => by cases h) stmtRvalue_row_tie rfl ⟨rfl, rfl⟩ (by kernel_rfl) rfl
    (fun f fn hf hfn => by
      obtain rfl : f = 12 := Option.some.inj ((show Tryd.prog.funcNamed "pawnshop/pawnshoplaw05.StmtRvalue" = some 12 by kernel_rfl).symm.trans hf) |>.symm
      obtain rfl : fn = Tryd.f12 := (Option.some.inj (Tryd.func12.symm.trans hfn)).symm
      exact ⟨by kernel_rfl, fun j t ht => by
        rw [Tryd.params12] at ht
        have hm : t ∈ ([63] : List TypeId) := by simpa using Array.mem_of_getElem? ht
        have hall : (([63] : List TypeId).all fun t => !(Tryd.prog.wantsStandIn t)) = true := by kernel_rfl
        have hw := List.all_eq_true.1 hall t hm
        exact (by simpa using hw : Tryd.prog.wantsStandIn t = false)⟩)
    (by kernel_rfl)

#print axioms proved
end Go.Proofs.YtaamdiknefodgaaDoor.stmtRvalue
