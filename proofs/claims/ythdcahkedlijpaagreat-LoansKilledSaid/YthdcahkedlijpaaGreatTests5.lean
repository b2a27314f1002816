/- Statements: which are valid; Check and the reference's Check and Valid answer by that test. -/
import Derived.Test.YthdcahkedlijpaaGreatTests4
import Derived.Test.YthdcahkedlijpaaGreatAmC
namespace Go.Proofs.YthdcahkedlijpaaGreat.Am
open Go.RowKit
set_option maxRecDepth 100000
set_option linter.unusedVariables false
abbrev kSt : List Kd := .i .u8 :: (kPl ++ (kRv ++ (kOp ++ [.i .i64])))
def okStE : E :=
  .or (.ands [.zero [(0, 1)], okPlE 1, okRvE 4, .zero (zs 20 5), .zero [(25, 0)]])
  (.or (.ands [.or (.zero [(0, 2)]) (.zero [(0, 4)]), .zero (zs 1 3), .zero (zs 4 16), okOpE 20, .zero [(25, 0)]])
  (.ands [.zero [(0, 3)], .zero (zs 1 3), .zero (zs 4 16), .zero (zs 20 5), .not (.lt 25 0), .lt 25 16]))
def okStB : E :=
  .or (.ands [.zero [(0, 1)], .zero [(26, 1)], .zero [(27, 1)], .zero (zs 20 5), .zero [(25, 0)]])
  (.or (.ands [.or (.zero [(0, 2)]) (.zero [(0, 4)]), .zero (zs 1 3), .zero (zs 4 16), .zero [(28, 1)], .zero [(25, 0)]])
  (.ands [.zero [(0, 3)], .zero (zs 1 3), .zero (zs 4 16), .zero (zs 20 5), .not (.lt 25 0), .lt 25 16]))
def bitsSt (us : List Value) : List Int := [b2i ((okPlE 1).val us), b2i ((okRvE 4).val us), b2i ((okOpE 20).val us)]
theorem b2i_one (b : Bool) : decide (b2i b = 1) = b := by cases b <;> decide
theorem st_bits {us : List Value} (hl : us.length = 26) : okStB.val (us ++ (bitsSt us).map (Value.int .i64)) = okStE.val us := by
  have z : ∀ l : List (Nat × Int), (l.all fun p => Nat.blt p.1 26) = true → (E.zero l).val (us ++ (bitsSt us).map (Value.int .i64)) = (E.zero l).val us := fun l h => by
    simp only [E.val]
    rw [Bool.eq_iff_iff, List.all_eq_true, List.all_eq_true]
    have key : ∀ p ∈ l, cellI (us ++ (bitsSt us).map (Value.int .i64)) p.1 = cellI us p.1 := fun p hp => cellI_lt (by
      have := List.all_eq_true.1 h p hp
      rw [Nat.blt_eq] at this
      omega)
    constructor <;> intro hh p hp <;> have := hh p hp
    · rwa [key p hp] at this
    · rwa [key p hp]
  have b : ∀ (j : Nat) (x : Bool), (bitsSt us)[j]? = some (b2i x) → (E.zero [(26 + j, 1)]).val (us ++ (bitsSt us).map (Value.int .i64)) = x := fun j x h => by
    simp only [E.val, List.all_cons, List.all_nil, Bool.and_true]
    rw [cellI_ge hl]
    unfold cellI
    rw [List.getElem?_map, h]
    exact b2i_one x
  have t : ∀ i (c : Int), i < 26 → (E.lt i c).val (us ++ (bitsSt us).map (Value.int .i64)) = (E.lt i c).val us := fun i c h => by
    simp only [E.val]
    rw [cellI_lt (by omega)]
  have e : ∀ vs : List Value, okStB.val vs = (((E.zero [(0, 1)]).val vs && ((E.zero [(26, 1)]).val vs && ((E.zero [(27, 1)]).val vs && ((E.zero (zs 20 5)).val vs && (E.zero [(25, 0)]).val vs)))) ||
      ((((E.zero [(0, 2)]).val vs || (E.zero [(0, 4)]).val vs) && ((E.zero (zs 1 3)).val vs && ((E.zero (zs 4 16)).val vs && ((E.zero [(28, 1)]).val vs && (E.zero [(25, 0)]).val vs)))) ||
      ((E.zero [(0, 3)]).val vs && ((E.zero (zs 1 3)).val vs && ((E.zero (zs 4 16)).val vs && ((E.zero (zs 20 5)).val vs && (!(E.lt 25 0).val vs && (E.lt 25 16).val vs))))))) := fun _ => rfl
  rw [e, z [(0, 1)] (by decide), b 0 _ rfl, b 1 _ rfl, z (zs 20 5) (by decide), z [(25, 0)] (by decide), z [(0, 2)] (by decide), z [(0, 4)] (by decide), z (zs 1 3) (by decide), z (zs 4 16) (by decide), b 2 _ rfl, z [(0, 3)] (by decide), t 25 0 (by decide), t 25 16 (by decide)]
  rfl
noncomputable def stB (L : Lf) : List Oracle := letI := L.know []
  [bitO 94 (clL L 1 kPl) 26 m8, bitO 99 (clL L 1 kPl) 26 m8, bitO 95 (clL L 4 kRv) 27 m8, bitO 100 (clL L 4 kRv) 27 m8,
   bitO 96 (clL L 20 kOp) 28 m8, bitO 101 (clL L 20 kOp) 28 m8, tO 94 kPl (okPlE 0) m8 (L.know [])]
noncomputable def stRun (F : FuncId) (L : Lf) : R := @runs (L.know []) (tyOf Tryz.prog) (fnOf Tryz.prog) (orcs (stB L)) 30 15 F ((argsT 0 [(true, kSt)]).map L.nA) ⟨[], 0⟩ 0
noncomputable def stAt (mk : Bool → V) (F : FuncId) (L : Lf) : Bool := Option.rec false (fun b => sayV (mk b) (stRun F L)) (@E.abs (L.know []) ((cellsT 0 kSt ++ [S.xi .i64 26, S.xi .i64 27, S.xi .i64 28]).map L.nS) okStB)
def L0St : Lf := Lf.startB [(true, kSt)] [] [(0, 1), (0, 1), (0, 1)]
theorem sub_place {us : List Value} {n : Nat} : (okPlE 0).val ((us.drop n).take 3) = (okPlE n).val us := by
  simp only [okPlE, E.ands, E.val, Nat.zero_add, cellI_sub (show 0 < 3 by decide), cellI_sub (show 2 < 3 by decide), Nat.add_zero]
theorem sub_zero {us : List Value} {n m : Nat} {l : List (Nat × Int)} (h : (l.all fun p => Nat.blt p.1 m) = true) : (E.zero l).val ((us.drop n).take m) = (E.zero (l.map fun p => (n + p.1, p.2))).val us := by
  simp only [E.val, List.all_map]
  rw [Bool.eq_iff_iff, List.all_eq_true, List.all_eq_true]
  have key : ∀ p ∈ l, cellI ((us.drop n).take m) p.1 = cellI us (n + p.1) := fun p hp => cellI_sub (by
    have := List.all_eq_true.1 h p hp
    rw [Nat.blt_eq] at this
    exact this)
  constructor <;> intro hh p hp <;> have := hh p hp <;> simp only [Function.comp] at this ⊢
  · rwa [key p hp] at this
  · rwa [key p hp]
def E.mv (n : Nat) : E → E
  | .lt i c => .lt (n + i) c
  | .zero l => .zero (l.map fun p => (n + p.1, p.2))
  | .and a b => .and (a.mv n) (b.mv n)
  | .or a b => .or (a.mv n) (b.mv n)
  | .not a => .not (a.mv n)
def E.top : E → Nat
  | .lt i _ => i + 1
  | .zero l => l.foldr (fun p m => max (p.1 + 1) m) 0
  | .and a b => max a.top b.top
  | .or a b => max a.top b.top
  | .not a => a.top
theorem top_all {m : Nat} : ∀ {l : List (Nat × Int)}, l.foldr (fun p m => max (p.1 + 1) m) 0 ≤ m → (l.all fun p => Nat.blt p.1 m) = true
  | [], _ => rfl
  | p :: l, h => by
    rw [List.foldr_cons] at h
    have h1 : p.1 + 1 ≤ m := Nat.le_trans (Nat.le_max_left ..) h
    rw [List.all_cons, top_all (Nat.le_trans (Nat.le_max_right ..) h), Bool.and_true, Nat.blt_eq]
    omega
theorem mv_val {us : List Value} {n m : Nat} : ∀ e : E, e.top ≤ m → e.val ((us.drop n).take m) = (e.mv n).val us
  | .lt i c, h => by
    have h : i + 1 ≤ m := h
    simp only [E.val, E.mv]
    rw [cellI_sub (by omega)]
  | .zero l, h => sub_zero (by
    have h : l.foldr (fun p m => max (p.1 + 1) m) 0 ≤ m := h
    exact top_all h)
  | .and a b, h => by
    have h : max a.top b.top ≤ m := h
    simp only [E.val, E.mv, mv_val a (Nat.le_trans (Nat.le_max_left ..) h), mv_val b (Nat.le_trans (Nat.le_max_right ..) h)]
  | .or a b, h => by
    have h : max a.top b.top ≤ m := h
    simp only [E.val, E.mv, mv_val a (Nat.le_trans (Nat.le_max_left ..) h), mv_val b (Nat.le_trans (Nat.le_max_right ..) h)]
  | .not a, h => by
    have h : a.top ≤ m := h
    simp only [E.val, E.mv, mv_val a h]
theorem pl_at {us : List Value} {n : Nat} : (okPlE 0).val ((us.drop n).take 3) = (okPlE n).val us := sub_place
theorem op_at {us : List Value} : (okOpE 0).val ((us.drop 20).take 5) = (okOpE 20).val us := (mv_val (okOpE 0) (by decide)).trans rfl
theorem rv_at {us : List Value} : (okRvE 0).val ((us.drop 4).take 16) = (okRvE 4).val us := (mv_val (okRvE 0) (by decide)).trans rfl
theorem sound_stB {us : List Value} (hk : All2 Kd.ok kSt us) {L : Lf} [b0 : Base] (hK : b0.toKnow = L.know []) (h1 : Base.rho = rhoOf (behind us [] (bitsSt us))) (h2 : Base.sig = sigOf (behind us [] (bitsSt us))) (hL : L.Holds Base.rho Base.sig) : Sound Tryz.prog (orcs (stB L)) := by
  have hlen : us.length = 26 := hk.len.symm
  have hp : All2 Kd.ok kPl ((us.drop 1).take 3) := (hk.drop 1).take 3
  have hr : All2 Kd.ok kRv ((us.drop 4).take 16) := (hk.drop 4).take 16
  have ho : All2 Kd.ok kOp ((us.drop 20).take 5) := (hk.drop 20).take 5
  have cp : All2 (VS r0) (clL L 1 kPl) ((us.drop 1).take 3) := clL_ok hL h1 h2 (part_eq us _ 1 3) (by simp [hlen]) hp
  have cr : All2 (VS r0) (clL L 4 kRv) ((us.drop 4).take 16) := clL_ok hL h1 h2 (part_eq us _ 4 16) (by simp [hlen]) hr
  have co : All2 (VS r0) (clL L 20 kOp) ((us.drop 20).take 5) := clL_ok hL h1 h2 (part_eq us _ 20 5) (by simp [hlen]) ho
  have r26 : Base.rho 26 = b2i ((okPlE 0).val ((us.drop 1).take 3)) := by
    rw [h1, pl_at]
    exact behind_int (a := 0) (j := 0) hlen rfl rfl
  have r27 : Base.rho 27 = b2i ((okRvE 0).val ((us.drop 4).take 16)) := by
    rw [h1, rv_at]
    exact behind_int (a := 0) (j := 1) hlen rfl rfl
  have r28 : Base.rho 28 = b2i ((okOpE 0).val ((us.drop 20).take 5)) := by
    rw [h1, op_at]
    exact behind_int (a := 0) (j := 2) hlen rfl rfl
  have key : ∀ O ∈ @List.cons Oracle (@bitO b0.toKnow 94 (clL L 1 kPl) 26 m8) [@bitO b0.toKnow 99 (clL L 1 kPl) 26 m8, @bitO b0.toKnow 95 (clL L 4 kRv) 27 m8, @bitO b0.toKnow 100 (clL L 4 kRv) 27 m8,
   @bitO b0.toKnow 96 (clL L 20 kOp) 28 m8, @bitO b0.toKnow 101 (clL L 20 kOp) 28 m8, tO 94 kPl (okPlE 0) m8 b0.toKnow], Sound Tryz.prog O := by
    intro O hO
    simp only [List.mem_cons, List.not_mem_nil, or_false] at hO
    rcases hO with rfl | rfl | rfl | rfl | rfl | rfl | rfl
    · exact sound_bit ⟨_, Tryz.func94, by kernel_rfl, by kernel_rfl⟩ (ones_T L kPl 1 rfl) cp r26 (fun _ => rfl) fun w _ => plA_tests _ hp w trivial
    · exact sound_bit ⟨_, Tryz.func99, by kernel_rfl, by kernel_rfl⟩ (ones_T L kPl 1 rfl) cp r26 (fun _ => rfl) fun w _ => plB_tests _ hp w trivial
    · exact sound_bit ⟨_, Tryz.func95, by kernel_rfl, by kernel_rfl⟩ (ones_T L kRv 4 rfl) cr r27 (fun _ => rfl) fun w _ => rvA_tests _ hr w trivial
    · exact sound_bit ⟨_, Tryz.func100, by kernel_rfl, by kernel_rfl⟩ (ones_T L kRv 4 rfl) cr r27 (fun _ => rfl) fun w _ => rvB_tests _ hr w trivial
    · exact sound_bit ⟨_, Tryz.func96, by kernel_rfl, by kernel_rfl⟩ (ones_T L kOp 20 rfl) co r28 (fun _ => rfl) fun w _ => opA_tests _ ho w trivial
    · exact sound_bit ⟨_, Tryz.func101, by kernel_rfl, by kernel_rfl⟩ (ones_T L kOp 20 rfl) co r28 (fun _ => rfl) fun w _ => opB_tests _ ho w trivial
    · exact sound_t8 b0 ⟨_, Tryz.func94, by kernel_rfl, by kernel_rfl⟩ plA_tests
  rw [hK] at key
  exact sound_orcs key
theorem st_tests {F : FuncId} {mk : Bool → V} {val : Bool → Value} (hmk : ∀ (b0 : Base) r b u, @VV b0 r (mk b) u → u = val b) {sp : Sp} (hrun : ((sp.leaves L0St).all (stAt mk F)) = true) : Tests Tryz.prog anyW F kSt okStE val := by
  intro us hk w _
  have hg : Gps [(true, kSt)] [.agg us.toArray] us := ⟨us, [], (List.append_nil _).symm, ⟨hk, .inl ⟨rfl, rfl⟩⟩, rfl⟩
  have hlen : us.length = 26 := hk.len.symm
  have b01 : ∀ b : Bool, (0 : Int) ≤ b2i b ∧ b2i b ≤ 1 := fun b => by cases b <;> decide
  have kk : Lens [] (rhoOf (behind us [] (bitsSt us))) (sigOf (behind us [] (bitsSt us))) := lens_behind (n := 26) (a := 0) hg rfl hlen rfl
  have hst : L0St.Holds (rhoOf (behind us [] (bitsSt us))) (sigOf (behind us [] (bitsSt us))) := Lf.startB_ok hg (ivS := []) trivial ⟨b01 _, b01 _, b01 _, trivial⟩
  obtain ⟨L, hm, hL⟩ := sp.cover hst
  have hp := List.all_eq_true.1 hrun L hm
  letI b0 : Base := baseN default (Lf.ok hL kk)
  have ha : All2 (VA r0) (argsT 0 [(true, kSt)]) [.agg us.toArray] := argsT_ok (pre := []) (cs' := us) (cs := behind us [] (bitsSt us)) rfl rfl ((bitsSt us).map (Value.int .i64)) rfl hg
  have hc : All2 (VS r0) ((cellsT 0 kSt ++ [S.xi .i64 26, S.xi .i64 27, S.xi .i64 28]).map L.nS) (us ++ (bitsSt us).map (Value.int .i64)) := by
    refine Lf.nSs_ok hL ((cellsT_ok (cs := behind us [] (bitsSt us)) (pre := []) (us := us) (post := (bitsSt us).map (Value.int .i64)) rfl rfl rfl hk).app ?_)
    refine ⟨?_, ?_, ?_, trivial⟩
    · exact congrArg (Value.int .i64) (behind_int (a := 0) (j := 0) (ints := bitsSt us) (strs := []) hlen rfl rfl).symm
    · exact congrArg (Value.int .i64) (behind_int (a := 0) (j := 1) (ints := bitsSt us) (strs := []) hlen rfl rfl).symm
    · exact congrArg (Value.int .i64) (behind_int (a := 0) (j := 2) (ints := bitsSt us) (strs := []) hlen rfl rfl).symm
  unfold stAt at hp
  cases hb : @E.abs (L.know []) ((cellsT 0 kSt ++ [S.xi .i64 26, S.xi .i64 27, S.xi .i64 28]).map L.nS) okStB with
  | none => rw [hb] at hp; cases hp
  | some b =>
    rw [hb] at hp
    obtain ⟨h', hr⟩ := sayV_is hp
    have hbv := E.abs_ok hc hb
    rw [st_bits hlen] at hbv
    refine (calls_flat w (Nat.zero_le _) (fun _ h => by cases h) (sound_runsN (Lf.ok hL kk) (sound_stB hk (L := L) rfl rfl rfl hL) 30 15) (Lf.nAs_ok hL ha) hr).mono fun x w' ⟨u, r', e1, e2, e3⟩ => ⟨?_, e3⟩
    rw [e1, hmk _ _ _ _ e2, hbv]
noncomputable def stA0L : Lf := L0St
noncomputable def stA1L : Lf := (stA0L.hi 0 (1 - 1))
def stA1T : Sp := (.conj [(1, 0), (2, 0), (3, 0), (4, 0), (5, 0), (6, 0), (7, 0), (8, 0), (9, 0), (10, 0), (11, 0), (12, 0), (13, 0), (14, 0), (15, 0), (16, 0), (17, 0), (18, 0), (19, 0), (20, 0), (21, 0), (22, 0), (23, 0), (24, 0), (25, 0)] .leaf .leaf)
noncomputable def stA2L : Lf := (stA0L.lo 0 1)
noncomputable def stA3L : Lf := (stA2L.hi 0 (2 - 1))
def stA3T : Sp := (.cut 27 1 (.cut 26 1 (.conj [(20, 0), (21, 0), (22, 0), (23, 0), (24, 0), (25, 0)] .leaf .leaf) (.conj [(20, 0), (21, 0), (22, 0), (23, 0), (24, 0), (25, 0)] .leaf .leaf)) (.cut 26 1 (.conj [(20, 0), (21, 0), (22, 0), (23, 0), (24, 0), (25, 0)] .leaf .leaf) (.conj [(20, 0), (21, 0), (22, 0), (23, 0), (24, 0), (25, 0)] .leaf (.conj [(20, 0), (21, 0), (22, 0), (23, 0), (24, 0)] (.cut 25 0 .leaf (.cut 25 1 .leaf .leaf)) .leaf))))
noncomputable def stA4L : Lf := (stA2L.lo 0 2)
noncomputable def stA5L : Lf := (stA4L.hi 0 (3 - 1))
def stA5T : Sp := (.conj [(1, 0), (2, 0), (3, 0), (4, 0), (5, 0), (6, 0), (7, 0), (8, 0), (9, 0), (10, 0), (11, 0), (12, 0), (13, 0), (14, 0), (15, 0), (16, 0), (17, 0), (18, 0), (19, 0), (25, 0)] (.cut 28 1 .leaf .leaf) (.conj [(1, 0), (2, 0), (3, 0)] (.conj [(4, 0), (5, 0), (6, 0), (7, 0), (8, 0), (9, 0), (10, 0), (11, 0), (12, 0), (13, 0), (14, 0), (15, 0), (16, 0), (17, 0), (18, 0), (19, 0), (25, 0)] (.cut 28 1 .leaf .leaf) (.conj [(4, 0), (5, 0), (6, 0), (7, 0), (8, 0), (9, 0), (10, 0), (11, 0), (12, 0), (13, 0), (14, 0), (15, 0), (16, 0), (17, 0), (18, 0), (19, 0)] (.cut 25 0 .leaf (.cut 25 1 (.cut 28 1 .leaf .leaf) .leaf)) .leaf)) .leaf))
noncomputable def stA6L : Lf := (stA4L.lo 0 3)
def stA6T : Sp := (.cut 0 4 (.cut 25 0 (.conj [(1, 0), (2, 0), (3, 0), (4, 0), (5, 0), (6, 0), (7, 0), (8, 0), (9, 0), (10, 0), (11, 0), (12, 0), (13, 0), (14, 0), (15, 0), (16, 0), (17, 0), (18, 0), (19, 0), (20, 0), (21, 0), (22, 0), (23, 0), (24, 0)] .leaf .leaf) (.cut 25 16 (.conj [(1, 0), (2, 0), (3, 0), (4, 0), (5, 0), (6, 0), (7, 0), (8, 0), (9, 0), (10, 0), (11, 0), (12, 0), (13, 0), (14, 0), (15, 0), (16, 0), (17, 0), (18, 0), (19, 0), (20, 0), (21, 0), (22, 0), (23, 0), (24, 0)] .leaf (.conj [(1, 0), (2, 0), (3, 0)] (.conj [(4, 0), (5, 0), (6, 0), (7, 0), (8, 0), (9, 0), (10, 0), (11, 0), (12, 0), (13, 0), (14, 0), (15, 0), (16, 0), (17, 0), (18, 0), (19, 0), (20, 0), (21, 0), (22, 0), (23, 0), (24, 0)] .leaf (.conj [(4, 0), (5, 0), (6, 0), (7, 0), (8, 0), (9, 0), (10, 0), (11, 0), (12, 0), (13, 0), (14, 0), (15, 0), (16, 0), (17, 0), (18, 0), (19, 0)] (.conj [(20, 0), (21, 0), (22, 0), (23, 0), (24, 0)] .leaf .leaf) .leaf)) .leaf)) (.conj [(1, 0), (2, 0), (3, 0), (4, 0), (5, 0), (6, 0), (7, 0), (8, 0), (9, 0), (10, 0), (11, 0), (12, 0), (13, 0), (14, 0), (15, 0), (16, 0), (17, 0), (18, 0), (19, 0), (20, 0), (21, 0), (22, 0), (23, 0), (24, 0)] .leaf .leaf))) (.cut 0 5 (.conj [(1, 0), (2, 0), (3, 0), (4, 0), (5, 0), (6, 0), (7, 0), (8, 0), (9, 0), (10, 0), (11, 0), (12, 0), (13, 0), (14, 0), (15, 0), (16, 0), (17, 0), (18, 0), (19, 0), (25, 0)] (.cut 28 1 .leaf .leaf) (.conj [(1, 0), (2, 0), (3, 0)] (.conj [(4, 0), (5, 0), (6, 0), (7, 0), (8, 0), (9, 0), (10, 0), (11, 0), (12, 0), (13, 0), (14, 0), (15, 0), (16, 0), (17, 0), (18, 0), (19, 0), (25, 0)] (.cut 28 1 .leaf .leaf) (.conj [(4, 0), (5, 0), (6, 0), (7, 0), (8, 0), (9, 0), (10, 0), (11, 0), (12, 0), (13, 0), (14, 0), (15, 0), (16, 0), (17, 0), (18, 0), (19, 0)] (.cut 25 0 .leaf (.cut 25 1 (.cut 28 1 .leaf .leaf) .leaf)) .leaf)) .leaf)) (.conj [(1, 0), (2, 0), (3, 0), (4, 0), (5, 0), (6, 0), (7, 0), (8, 0), (9, 0), (10, 0), (11, 0), (12, 0), (13, 0), (14, 0), (15, 0), (16, 0), (17, 0), (18, 0), (19, 0), (20, 0), (21, 0), (22, 0), (23, 0), (24, 0), (25, 0)] .leaf .leaf)))
def stA4T : Sp := .cut 0 3 stA5T stA6T
def stA2T : Sp := .cut 0 2 stA3T stA4T
def stA0T : Sp := .cut 0 1 stA1T stA2T
theorem stA1 : (stA1T.leaves stA1L).all (stAt m8 70) = true := by kernel_rfl
theorem stA3 : (stA3T.leaves stA3L).all (stAt m8 70) = true := by kernel_rfl
theorem stA5 : (stA5T.leaves stA5L).all (stAt m8 70) = true := by kernel_rfl
theorem stA6 : (stA6T.leaves stA6L).all (stAt m8 70) = true := by kernel_rfl
theorem stA4 : (stA4T.leaves stA4L).all (stAt m8 70) = true := by
  have e : stA4T.leaves stA4L = stA5T.leaves stA5L ++ stA6T.leaves stA6L := rfl
  rw [e]
  simp only [List.all_append, stA5, stA6, Bool.and_self]
theorem stA2 : (stA2T.leaves stA2L).all (stAt m8 70) = true := by
  have e : stA2T.leaves stA2L = stA3T.leaves stA3L ++ stA4T.leaves stA4L := rfl
  rw [e]
  simp only [List.all_append, stA3, stA4, Bool.and_self]
theorem stA0 : (stA0T.leaves stA0L).all (stAt m8 70) = true := by
  have e : stA0T.leaves stA0L = stA1T.leaves stA1L ++ stA2T.leaves stA2L := rfl
  rw [e]
  simp only [List.all_append, stA1, stA2, Bool.and_self]
theorem stA_tests : Tests Tryz.prog anyW 70 kSt okStE v8 := st_tests m8_ok (sp := stA0T) stA0
noncomputable def stV0L : Lf := L0St
noncomputable def stV1L : Lf := (stV0L.hi 0 (1 - 1))
def stV1T : Sp := .leaf
noncomputable def stV2L : Lf := (stV0L.lo 0 1)
def stV2T : Sp := (.cut 0 2 (.cut 26 1 .leaf (.cut 27 1 .leaf (.conj [(20, 0), (21, 0), (22, 0), (23, 0), (24, 0)] (.cut 25 0 .leaf (.cut 25 1 .leaf .leaf)) .leaf))) (.cut 0 3 (.conj [(1, 0), (2, 0), (3, 0)] (.conj [(4, 0), (5, 0), (6, 0), (7, 0), (8, 0), (9, 0), (10, 0), (11, 0), (12, 0), (13, 0), (14, 0), (15, 0), (16, 0), (17, 0), (18, 0), (19, 0)] (.cut 28 1 .leaf (.cut 25 0 .leaf (.cut 25 1 .leaf .leaf))) .leaf) .leaf) (.cut 0 4 (.conj [(1, 0), (2, 0), (3, 0)] (.conj [(4, 0), (5, 0), (6, 0), (7, 0), (8, 0), (9, 0), (10, 0), (11, 0), (12, 0), (13, 0), (14, 0), (15, 0), (16, 0), (17, 0), (18, 0), (19, 0)] (.conj [(20, 0), (21, 0), (22, 0), (23, 0), (24, 0)] (.cut 25 0 .leaf (.cut 25 16 .leaf .leaf)) .leaf) .leaf) .leaf) (.cut 0 5 (.conj [(1, 0), (2, 0), (3, 0)] (.conj [(4, 0), (5, 0), (6, 0), (7, 0), (8, 0), (9, 0), (10, 0), (11, 0), (12, 0), (13, 0), (14, 0), (15, 0), (16, 0), (17, 0), (18, 0), (19, 0)] (.cut 28 1 .leaf (.cut 25 0 .leaf (.cut 25 1 .leaf .leaf))) .leaf) .leaf) .leaf))))
def stV0T : Sp := .cut 0 1 stV1T stV2T
theorem stV1 : (stV1T.leaves stV1L).all (stAt mB 76) = true := by kernel_rfl
theorem stV2 : (stV2T.leaves stV2L).all (stAt mB 76) = true := by kernel_rfl
theorem stV0 : (stV0T.leaves stV0L).all (stAt mB 76) = true := by
  have e : stV0T.leaves stV0L = stV1T.leaves stV1L ++ stV2T.leaves stV2L := rfl
  rw [e]
  simp only [List.all_append, stV1, stV2, Bool.and_self]
theorem stV_tests : Tests Tryz.prog anyW 76 kSt okStE .bool := st_tests mB_ok (sp := stV0T) stV0
end Go.Proofs.YthdcahkedlijpaaGreat.Am
