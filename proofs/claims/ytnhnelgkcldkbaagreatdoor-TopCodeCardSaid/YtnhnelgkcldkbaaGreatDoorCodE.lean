/- The call jump that TopCode makes of an rvalue's operands: it is a jump, and valid. What an assignment moves, its call jump moves: plain. What an assignment uses, its call jump uses: plain. -/
import Derived.Test.YtnhnelgkcldkbaaGreatDoorCodUs
import Derived.Test.YtnhnelgkcldkbaaGreatDoorJump2
import Derived.Test.YtnhnelgkcldkbaaGreatDoorJump4C
namespace Go.Proofs.YtnhnelgkcldkbaaGreatDoor.enc
open Go.RowKit Go.Proofs.YtnhnelgkcldkbaaGreatDoor Go.Proofs.YtnhnelgkcldkbaaGreatDoor.Am Go.Proofs.YtnhnelgkcldkbaaGreatDoor.loan Go.Proofs.YtnhnelgkcldkbaaGreatDoor.bld
set_option linter.unusedVariables false
def pre4 : List Value := [.int .u8 4, .int .u8 0, .int .i64 0, .int .i64 0, .bool false, .int .u8 0, .int .i64 0, .int .i64 0, .int .i64 0]
theorem i64_ok {n : Int} (h0 : -9223372036854775808 ≤ n) (h1 : n ≤ 9223372036854775807) : Kd.ok (.i .i64) (.int .i64 n) := ⟨_, rfl, h0, h1⟩
theorem u8_ok {n : Int} (h0 : 0 ≤ n) (h1 : n ≤ 255) : Kd.ok (.i .u8) (.int .u8 n) := ⟨_, rfl, h0, h1⟩
theorem b_ok {b : Bool} : Kd.ok .b (.bool b) := ⟨_, rfl⟩
theorem op_kd {a : OpV} (h : a.ok) : All2 Kd.ok opK a.c := by
  cases a with
  | k n => exact ⟨u8_ok (by decide) (by decide), i64_ok h.1 h.2, i64_ok (by decide) (by decide), b_ok, u8_ok (by decide) (by decide), trivial⟩
  | p m q =>
    obtain ⟨h0, h1, h2, h3⟩ : q.ok := h
    exact ⟨u8_ok (by cases m <;> decide) (by cases m <;> decide), i64_ok (by decide) (by decide), i64_ok (by omega) (by omega), b_ok, u8_ok (by omega) (by omega), trivial⟩
theorem op_val {a : OpV} (h : a.ok) : (okOpE 0).val a.c = true := by
  cases a with
  | k n =>
    show (okOpE 0).num (cellI [Value.int .u8 1, .int .i64 n, .int .i64 0, .bool false, .int .u8 0]) = true
    simp [okOpE, okPlE, E.ands, E.num, cellI, codeI, zs]
    intro x hx
    have : x = 0 ∨ x = 1 ∨ x = 2 := by omega
    rcases this with rfl | rfl | rfl <;> rfl
  | p m q =>
    obtain ⟨h0, h1, h2, h3⟩ : q.ok := h
    show (okOpE 0).num (cellI [Value.int .u8 (kdM m), .int .i64 0, .int .i64 q.l, .bool q.d, .int .u8 q.f]) = true
    cases m <;> simp [okOpE, okPlE, E.ands, E.num, cellI, codeI, zs, kdM] <;> omega
theorem call_is {w : World} {l : List OpV} {q : PlV} {A : Option Addr} {c : Nat} (h : ∀ a ∈ l, a.ok) (hq : q.ok) (rows : RowsAt w A 5 (l.map OpV.c)) (hc : (l.map OpV.c).length ≤ c) (hc2 : c ≤ 2) :
    JumpIs w (.agg (pre4 ++ .slice A (l.map OpV.c).length c :: q.c).toArray) pre4 (.slice A (l.map OpV.c).length c) q.c (l.map OpV.c) := by
  refine ⟨rfl, ⟨u8_ok (by decide) (by decide), u8_ok (by decide) (by decide), i64_ok (by decide) (by decide), i64_ok (by decide) (by decide), b_ok, u8_ok (by decide) (by decide), i64_ok (by decide) (by decide), i64_ok (by decide) (by decide), i64_ok (by decide) (by decide), trivial⟩, pl_kd hq, ⟨⟨A, c, rfl⟩, by omega, fun i el hi => ?_, fun i el hi => ?_, fun _ A' n c' e => ?_⟩⟩
  · obtain ⟨g, o, eA, _, hr⟩ := rows i el hi
    exact ⟨g, o, c, by rw [eA], fun f u hf => hr f u hf⟩
  · obtain ⟨a, ha, rfl⟩ := List.mem_map.1 (List.mem_of_getElem? hi)
    exact op_kd (h a ha)
  · injection e with _ e2 e3
    subst e2 e3
    exact ⟨hc, by unfold maxLen; omega⟩
theorem call_ok {l : List OpV} {q : PlV} (h : ∀ a ∈ l, a.ok) (hq : q.ok) (hl : l.length ≤ 2) : okJ pre4 (l.map OpV.c) q.c = true := by
  have ha : ((l.map OpV.c).all fun el => (okOpE 0).val el) = true := List.all_eq_true.2 fun el he => by
    obtain ⟨a, hm, rfl⟩ := List.mem_map.1 he
    exact op_val (h a hm)
  obtain ⟨h0, h1, h2, h3⟩ := hq
  have hn : (l.map OpV.c).length ≤ 2 := by rw [List.length_map]; exact hl
  unfold okJ bitsJ
  rw [ha]
  generalize l.map OpV.c = els at *
  generalize hn2 : els.length = n at hn
  have hp : (okPlE 10).val (flatJ pre4 els q.c) = true := by
    show (okPlE 10).num (cellI (flatJ pre4 els q.c)) = true
    simp [okPlE, E.ands, E.num, cellI, codeI, flatJ, pre4, PlV.c]
    omega
  rw [hp]
  generalize b2i ((okOpE 1).val (flatJ pre4 els q.c)) = z
  unfold flatJ
  rw [hn2]
  show okJB.num (cellI _) = true
  simp [okJB, inRE, E.ands, E.num, cellI, codeI, zs, b2i, pre4, PlV.c]
  refine ⟨fun x hx => ?_, by omega⟩
  have : x = 0 ∨ x = 1 ∨ x = 2 ∨ x = 3 ∨ x = 4 := by omega
  rcases this with rfl | rfl | rfl | rfl | rfl <;> rfl
end Go.Proofs.YtnhnelgkcldkbaaGreatDoor.enc
namespace Go.Proofs.YtnhnelgkcldkbaaGreatDoor.enc
open Go.RowKit Go.Proofs.YtnhnelgkcldkbaaGreatDoor Go.Proofs.YtnhnelgkcldkbaaGreatDoor.Am Go.Proofs.YtnhnelgkcldkbaaGreatDoor.loan Go.Proofs.YtnhnelgkcldkbaaGreatDoor.bld
set_option linter.unusedVariables false
theorem op_moves {a : OpV} (h : a.ok) : (opM (opdAt a.c 0) = [] ∧ toldL selM [a.c] = []) ∨ ∃ x, 0 ≤ x ∧ x ≤ 15 ∧ opM (opdAt a.c 0) = [x] ∧ toldL selM [a.c] = [x] := by
  cases a with
  | k n => exact .inl ⟨rfl, rfl⟩
  | p m q =>
    cases m with
    | false => exact .inl ⟨rfl, rfl⟩
    | true => exact .inr ⟨q.l, PlV.ok.l0 h, PlV.ok.l1 h, rfl, rfl⟩
theorem st_moves (q : PlV) (r : RvV) : stM (stOf (StV.asg q r).c) = rvM (rvAt r.c 0) := by
  rcases r with a | ⟨o, a, b⟩ | ⟨a, b⟩ | ⟨o, q⟩ | q
  · cases a <;> rfl
  · cases a <;> cases b <;> rfl
  · cases a <;> cases b <;> rfl
  · rfl
  · rfl
theorem told_two (x y : List Value) : toldL selM [x, y] = toldL selM [x] ++ toldL selM [y] := by
  unfold toldL
  simp
theorem two_moves {a b : OpV} (ha : a.ok) (hb : b.ok) : srtU (opM (opdAt a.c 0) ++ opM (opdAt b.c 0)) = incr 0 (boolsT (toldL selM [a.c, b.c])) := by
  rw [told_two]
  rcases op_moves ha with ⟨h1, h2⟩ | ⟨x, x0, x1, h1, h2⟩ <;> rcases op_moves hb with ⟨k1, k2⟩ | ⟨y, y0, y1, k1, k2⟩ <;> rw [h1, h2, k1, k2]
  · exact none_at.symm
  · exact (one_at y0 y1).symm
  · exact (one_at x0 x1).symm
  · exact two_at x0 x1 y0 y1
theorem moves_eq {q : PlV} {r : RvV} (h : r.ok) (ho : r.own = []) : stM (stOf (StV.asg q r).c) = incT (movesJ pre4 (r.ops.map OpV.c) q.c) := by
  have hpj : partsJ pre4 (r.ops.map OpV.c) = r.ops.map OpV.c := if_neg (show ¬ (4 : Int) = 2 by decide)
  rw [st_moves]
  unfold movesJ incT
  rw [hpj]
  rcases r with a | ⟨o, a, b⟩ | ⟨a, b⟩ | ⟨o, q⟩ | q
  · have e : rvM (rvAt (RvV.use a).c 0) = opM (opdAt a.c 0) := by cases a <;> rfl
    rw [e]
    show _ = incr 0 (boolsT (toldL selM [a.c]))
    rcases op_moves (a := a) h with ⟨h1, h2⟩ | ⟨x, x0, x1, h1, h2⟩ <;> rw [h1, h2]
    · exact none_at.symm
    · exact (one_at x0 x1).symm
  · have e : rvM (rvAt (RvV.bin o a b).c 0) = srtU (opM (opdAt a.c 0) ++ opM (opdAt b.c 0)) := by cases a <;> cases b <;> rfl
    rw [e]
    exact two_moves h.2.2.1 h.2.2.2
  · have e : rvM (rvAt (RvV.two a b).c 0) = srtU (opM (opdAt a.c 0) ++ opM (opdAt b.c 0)) := by cases a <;> cases b <;> rfl
    rw [e]
    exact two_moves h.1 h.2
  · cases ho
  · cases ho
end Go.Proofs.YtnhnelgkcldkbaaGreatDoor.enc
namespace Go.Proofs.YtnhnelgkcldkbaaGreatDoor.enc
open Go.RowKit Go.Proofs.YtnhnelgkcldkbaaGreatDoor Go.Proofs.YtnhnelgkcldkbaaGreatDoor.Am Go.Proofs.YtnhnelgkcldkbaaGreatDoor.loan Go.Proofs.YtnhnelgkcldkbaaGreatDoor.bld
set_option linter.unusedVariables false
theorem ins1 : ((List.range 16).all fun x => insU (x : Int) [] == incr 0 (boolsT [(x : Int)])) = true := by kernel_rfl
theorem ins2 : ((List.range 16).all fun x => (List.range 16).all fun y => insU (x : Int) (incr 0 (boolsT [(y : Int)])) == incr 0 (boolsT [(x : Int), (y : Int)])) = true := by kernel_rfl
theorem ins3 : ((List.range 16).all fun x => (List.range 16).all fun y => (List.range 16).all fun z => insU (x : Int) (incr 0 (boolsT [(y : Int), (z : Int)])) == incr 0 (boolsT [(x : Int), (y : Int), (z : Int)])) = true := by kernel_rfl
theorem rg {x : Int} (h : 0 ≤ x ∧ x ≤ 15) : ∃ n : Nat, x = (n : Int) ∧ n ∈ List.range 16 := by
  obtain ⟨n, rfl⟩ := Int.eq_ofNat_of_zero_le h.1
  exact ⟨n, rfl, List.mem_range.2 (by omega)⟩
theorem ins_at {x : Int} (hx : 0 ≤ x ∧ x ≤ 15) : ∀ {L : List Int}, (∀ y ∈ L, 0 ≤ y ∧ y ≤ 15) → L.length ≤ 2 → insU x (incr 0 (boolsT L)) = incr 0 (boolsT (x :: L))
  | [], _, _ => by
    obtain ⟨n, rfl, hn⟩ := rg hx
    exact eq_of_beq (List.all_eq_true.1 ins1 n hn)
  | [y], h, _ => by
    obtain ⟨n, rfl, hn⟩ := rg hx
    obtain ⟨m, rfl, hm⟩ := rg (h y (by simp))
    exact eq_of_beq (List.all_eq_true.1 (List.all_eq_true.1 ins2 n hn) m hm)
  | [y, z], h, _ => by
    obtain ⟨n, rfl, hn⟩ := rg hx
    obtain ⟨m, rfl, hm⟩ := rg (h y (by simp))
    obtain ⟨k, rfl, hk⟩ := rg (h z (by simp))
    exact eq_of_beq (List.all_eq_true.1 (List.all_eq_true.1 (List.all_eq_true.1 ins3 n hn) m hm) k hk)
  | _ :: _ :: _ :: _, _, h => absurd h (by simp)
theorem told_ops (l : List OpV) : toldL selU (l.map OpV.c) = locs (l.flatMap OpV.pls) := by
  induction l with
  | nil => rfl
  | cons a l ih =>
    unfold toldL locs at *
    rw [List.map_cons, List.flatMap_cons, List.flatMap_cons, List.map_append, ih]
    congr 1
    cases a with
    | k n => rfl
    | p m q => cases m <;> rfl
theorem pls_in {r : RvV} (h : r.ok) : ∀ y ∈ locs (r.ops.flatMap OpV.pls), 0 ≤ y ∧ y ≤ 15 := by
  have pa : ∀ (a : OpV), a.ok → ∀ y ∈ locs a.pls, 0 ≤ y ∧ y ≤ 15 := fun a ha y hy => by
    cases a with
    | k n => cases hy
    | p m q => rw [List.mem_singleton.1 (show y ∈ [q.l] from hy)]; exact ⟨PlV.ok.l0 ha, PlV.ok.l1 ha⟩
  intro y hy
  obtain ⟨p, hp, rfl⟩ := List.mem_map.1 hy
  obtain ⟨a, ha, hpa⟩ := List.mem_flatMap.1 hp
  have hok : a.ok := by
    cases r with
    | use b => rw [List.mem_singleton.1 (show a ∈ [b] from ha)]; exact h
    | bin o b c =>
      obtain ⟨_, _, hb, hc⟩ := h
      rcases List.mem_cons.1 (show a ∈ [b, c] from ha) with rfl | e
      · exact hb
      · rw [List.mem_singleton.1 e]; exact hc
    | two b c =>
      obtain ⟨hb, hc⟩ := h
      rcases List.mem_cons.1 (show a ∈ [b, c] from ha) with rfl | e
      · exact hb
      · rw [List.mem_singleton.1 e]; exact hc
    | ref o q => cases ha
    | raw q => cases ha
  exact pa a hok _ (List.mem_map.2 ⟨p, hpa, rfl⟩)
theorem st_uses (q : PlV) (r : RvV) : stU (stOf (StV.asg q r).c) = if q.d = true ∨ 0 < q.f then insU q.l (rvU (rvAt r.c 0)) else rvU (rvAt r.c 0) := by
  obtain ⟨l, d, f⟩ := q
  rcases r with a | ⟨o, a, b⟩ | ⟨a, b⟩ | ⟨o, q⟩ | q
  · cases d <;> cases a <;> rfl
  · cases d <;> cases a <;> cases b <;> rfl
  · cases d <;> cases a <;> cases b <;> rfl
  · cases d <;> rfl
  · cases d <;> rfl
theorem part_q (q : PlV) : partJ q.c ↔ (q.d = true ∨ 0 < q.f) := by
  obtain ⟨l, d, f⟩ := q
  cases d
  · exact ⟨fun h => h.elim (fun h => absurd (show (0 : Int) = 1 from h) (by decide)) .inr, fun h => h.elim (fun h => by cases h) .inr⟩
  · exact ⟨fun _ => .inl rfl, fun _ => .inl rfl⟩
theorem uses_eq {q : PlV} {r : RvV} (hq : q.ok) (h : r.ok) (ho : r.own = []) : stU (stOf (StV.asg q r).c) = incT (usesJ pre4 (r.ops.map OpV.c) q.c) := by
  have hpl : locs r.pls = locs (r.ops.flatMap OpV.pls) := by unfold RvV.pls; rw [ho, List.append_nil]
  have hpj : partsJ pre4 (r.ops.map OpV.c) = r.ops.map OpV.c := if_neg (show ¬ (4 : Int) = 2 by decide)
  have h3 : (if cellI pre4 0 = 3 then [(0 : Int)] else []) = [] := if_neg (show ¬ (4 : Int) = 3 by decide)
  have hlen : (locs (r.ops.flatMap OpV.pls)).length ≤ 2 := by unfold locs; rw [List.length_map]; exact pls_le r
  rw [st_uses, rv_uses h, hpl]
  unfold usesJ incT
  rw [hpj, h3, told_ops, List.nil_append]
  by_cases hp : q.d = true ∨ 0 < q.f
  · rw [if_pos hp, if_pos ((part_q q).2 hp), ins_at ⟨hq.l0, hq.l1⟩ (pls_in h) hlen]
    rfl
  · rw [if_neg hp, if_neg (fun e => hp ((part_q q).1 e)), List.nil_append]
end Go.Proofs.YtnhnelgkcldkbaaGreatDoor.enc
