/- Statements: which are valid; Check and the reference's Check and Valid answer by that test. -/
import Derived.Test.YtglmonlofejcgaaGreatDoorTests4
import Derived.Test.YtglmonlofejcgaaGreatDoorAmC
set_option linter.unusedVariables false
set_option maxRecDepth 100000
namespace Go.Proofs.YtglmonlofejcgaaGreatDoor.Am
open Go.RowKit
abbrev kSt : List Kd := .i .u8 :: (kPl ++ (kRv ++ (kOp ++ [.i .i64])))
def dJ : E :=
 .or (.ands [.zero [(0, 1)], fU 1, qB 4, .zero (zs 20 5), .zero [(25, 0)]])
 (.or (.ands [.or (.zero [(0, 2)]) (.zero [(0, 4)]), .zero (zs 1 3), .zero (zs 4 16), bn 20, .zero [(25, 0)]])
 (.ands [.zero [(0, 3)], .zero (zs 1 3), .zero (zs 4 16), .zero (zs 20 5), .not (.lt 25 0), .lt 25 16]))
def a0y : E :=
 .or (.ands [.zero [(0, 1)], .zero [(26, 1)], .zero [(27, 1)], .zero (zs 20 5), .zero [(25, 0)]])
 (.or (.ands [.or (.zero [(0, 2)]) (.zero [(0, 4)]), .zero (zs 1 3), .zero (zs 4 16), .zero [(28, 1)], .zero [(25, 0)]])
 (.ands [.zero [(0, 3)], .zero (zs 1 3), .zero (zs 4 16), .zero (zs 20 5), .not (.lt 25 0), .lt 25 16]))
def jq (us : List Value) : List Int := [b2i ((fU 1).val us), b2i ((qB 4).val us), b2i ((bn 20).val us)]
theorem ni (b : Bool) : decide (b2i b = 1) = b := by cases b <;> decide
theorem ahb {us : List Value} (hl : us.length = 26) : a0y.val (us ++ (jq us).map (Value.int .i64)) = dJ.val us := by
 have z : ∀ l : List (Nat × Int), (l.all fun p => Nat.blt p.1 26) = true -> (E.zero l).val (us ++ (jq us).map (Value.int .i64)) = (E.zero l).val us := fun l h => by
  simp only [E.val]
  rw [Bool.eq_iff_iff, List.all_eq_true, List.all_eq_true]
  have key : ∀ p ∈ l, ah (us ++ (jq us).map (Value.int .i64)) p.1 = ah us p.1 := fun p hp => jQ (by
   have := List.all_eq_true.1 h p hp
   rw [Nat.blt_eq] at this
   omega)
  constructor <;> intro hh p hp <;> have := hh p hp
  ·rwa [key p hp] at this
  ·rwa [key p hp]
 have b : ∀ (j : Nat) (x : Bool), (jq us)[j]? = some (b2i x) -> (E.zero [(26 + j, 1)]).val (us ++ (jq us).map (Value.int .i64)) = x := fun j x h => by
  simp only [E.val, List.all_cons, List.all_nil, Bool.and_true]
  rw [kH hl]
  unfold ah
  rw [List.getElem?_map, h]
  exact ni x
 have t : ∀ i (c : Int), i < 26 -> (E.lt i c).val (us ++ (jq us).map (Value.int .i64)) = (E.lt i c).val us := fun i c h => by
  simp only [E.val]
  rw [jQ (by omega)]
 have e : ∀ vs : List Value, a0y.val vs = (((E.zero [(0, 1)]).val vs && ((E.zero [(26, 1)]).val vs && ((E.zero [(27, 1)]).val vs && ((E.zero (zs 20 5)).val vs && (E.zero [(25, 0)]).val vs)))) ||
   ((((E.zero [(0, 2)]).val vs || (E.zero [(0, 4)]).val vs) && ((E.zero (zs 1 3)).val vs && ((E.zero (zs 4 16)).val vs && ((E.zero [(28, 1)]).val vs && (E.zero [(25, 0)]).val vs)))) ||
   ((E.zero [(0, 3)]).val vs && ((E.zero (zs 1 3)).val vs && ((E.zero (zs 4 16)).val vs && ((E.zero (zs 20 5)).val vs && (!(E.lt 25 0).val vs && (E.lt 25 16).val vs))))))) := fun _ => rfl
 rw [e, z [(0, 1)] (by decide), b 0 _ rfl, b 1 _ rfl, z (zs 20 5) (by decide), z [(25, 0)] (by decide), z [(0, 2)] (by decide), z [(0, 4)] (by decide), z (zs 1 3) (by decide), z (zs 4 16) (by decide), b 2 _ rfl, z [(0, 3)] (by decide), t 25 0 (by decide), t 25 16 (by decide)]
 rfl
noncomputable def stB (L : Lf) : List aS := letI := L.know []
 [rG 95 (clL L 1 kPl) 26 m8, rG 127 (clL L 1 kPl) 26 m8, rG 96 (clL L 4 kRv) 27 m8, rG 128 (clL L 4 kRv) 27 m8,
  rG 97 (clL L 20 kOp) 28 m8, rG 129 (clL L 20 kOp) 28 m8, tO 95 kPl (fU 0) m8 (L.know [])]
noncomputable def alA (F : FuncId) (L : Lf) : R := @runs (L.know []) (lM Tryz.prog) (lZ Tryz.prog) (I7 (stB L)) 30 15 F ((a0Y 0 [(true, kSt)]).map L.nA) ⟨[], 0⟩ 0
noncomputable def Ht (mk : Bool -> V) (F : FuncId) (L : Lf) : Bool := Option.rec false (fun b => vg (mk b) (alA F L)) (@E.abs (L.know []) ((bZ 0 kSt ++ [S.xi .i64 26, S.xi .i64 27, S.xi .i64 28]).map L.nS) a0y)
def afL : Lf := Lf.lV [(true, kSt)] [] [(0, 1), (0, 1), (0, 1)]
theorem a2o {us : List Value} {n : Nat} : (fU 0).val ((us.drop n).take 3) = (fU n).val us := by
 simp only [fU, E.ands, E.val, Nat.zero_add, yR (show 0 < 3 by decide), yR (show 2 < 3 by decide), Nat.add_zero]
theorem sub_zero {us : List Value} {n m : Nat} {l : List (Nat × Int)} (h : (l.all fun p => Nat.blt p.1 m) = true) : (E.zero l).val ((us.drop n).take m) = (E.zero (l.map fun p => (n + p.1, p.2))).val us := by
 simp only [E.val, List.all_map]
 rw [Bool.eq_iff_iff, List.all_eq_true, List.all_eq_true]
 have key : ∀ p ∈ l, ah ((us.drop n).take m) p.1 = ah us (n + p.1) := fun p hp => yR (by
  have := List.all_eq_true.1 h p hp
  rw [Nat.blt_eq] at this
  exact this)
 constructor <;> intro hh p hp <;> have := hh p hp <;> simp only [Function.comp] at this |-
 ·rwa [key p hp] at this
 ·rwa [key p hp]
def E.mv (n : Nat) : E -> E
 | .lt i c => .lt (n + i) c
 | .zero l => .zero (l.map fun p => (n + p.1, p.2))
 | .and a b => .and (a.mv n) (b.mv n)
 | .or a b => .or (a.mv n) (b.mv n)
 | .not a => .not (a.mv n)
def E.top : E -> Nat
 | .lt i _ => i + 1
 | .zero l => l.foldr (fun p m => max (p.1 + 1) m) 0
 | .and a b => max a.top b.top
 | .or a b => max a.top b.top
 | .not a => a.top
theorem Zu {m : Nat} : ∀ {l : List (Nat × Int)}, l.foldr (fun p m => max (p.1 + 1) m) 0 <= m -> (l.all fun p => Nat.blt p.1 m) = true
 | [], _ => rfl
 | p :: l, h => by
  rw [List.foldr_cons] at h
  have h1 : p.1 + 1 <= m := Nat.le_trans (Nat.le_max_left ..) h
  rw [List.all_cons, Zu (Nat.le_trans (Nat.le_max_right ..) h), Bool.and_true, Nat.blt_eq]
  omega
theorem uK {us : List Value} {n m : Nat} : ∀ e : E, e.top <= m -> e.val ((us.drop n).take m) = (e.mv n).val us
 | .lt i c, h => by
  have h : i + 1 <= m := h
  simp only [E.val, E.mv]
  rw [yR (by omega)]
 | .zero l, h => sub_zero (by
  have h : l.foldr (fun p m => max (p.1 + 1) m) 0 <= m := h
  exact Zu h)
 | .and a b, h => by
  have h : max a.top b.top <= m := h
  simp only [E.val, E.mv, uK a (Nat.le_trans (Nat.le_max_left ..) h), uK b (Nat.le_trans (Nat.le_max_right ..) h)]
 | .or a b, h => by
  have h : max a.top b.top <= m := h
  simp only [E.val, E.mv, uK a (Nat.le_trans (Nat.le_max_left ..) h), uK b (Nat.le_trans (Nat.le_max_right ..) h)]
 | .not a, h => by
  have h : a.top <= m := h
  simp only [E.val, E.mv, uK a h]
theorem a7O {us : List Value} {n : Nat} : (fU 0).val ((us.drop n).take 3) = (fU n).val us := a2o
theorem al5 {us : List Value} : (bn 0).val ((us.drop 20).take 5) = (bn 20).val us := (uK (bn 0) (by decide)).trans rfl
theorem al2 {us : List Value} : (qB 0).val ((us.drop 4).take 16) = (qB 4).val us := (uK (qB 0) (by decide)).trans rfl
theorem a3d {us : List Value} (hk : ak Kd.ok kSt us) {L : Lf} [b0 : Base] (hK : b0.toKnow = L.know []) (h1 : Base.rho = dh (behind us [] (jq us))) (h2 : Base.sig = fD (behind us [] (jq us))) (hL : L.Holds Base.rho Base.sig) : Sound Tryz.prog (I7 (stB L)) := by
 have hlen : us.length = 26 := hk.len.symm
 have hp : ak Kd.ok kPl ((us.drop 1).take 3) := (hk.drop 1).take 3
 have hr : ak Kd.ok kRv ((us.drop 4).take 16) := (hk.drop 4).take 16
 have ho : ak Kd.ok kOp ((us.drop 20).take 5) := (hk.drop 20).take 5
 have cp : ak (VS r0) (clL L 1 kPl) ((us.drop 1).take 3) := BP hL h1 h2 (E5 us _ 1 3) (by simp [hlen]) hp
 have cr : ak (VS r0) (clL L 4 kRv) ((us.drop 4).take 16) := BP hL h1 h2 (E5 us _ 4 16) (by simp [hlen]) hr
 have co : ak (VS r0) (clL L 20 kOp) ((us.drop 20).take 5) := BP hL h1 h2 (E5 us _ 20 5) (by simp [hlen]) ho
 have r26 : Base.rho 26 = b2i ((fU 0).val ((us.drop 1).take 3)) := by
  rw [h1, a7O]
  exact gV (a := 0) (j := 0) hlen rfl rfl
 have r27 : Base.rho 27 = b2i ((qB 0).val ((us.drop 4).take 16)) := by
  rw [h1, al2]
  exact gV (a := 0) (j := 1) hlen rfl rfl
 have r28 : Base.rho 28 = b2i ((bn 0).val ((us.drop 20).take 5)) := by
  rw [h1, al5]
  exact gV (a := 0) (j := 2) hlen rfl rfl
 have key : ∀ O ∈ @List.cons aS (@rG b0.toKnow 95 (clL L 1 kPl) 26 m8) [@rG b0.toKnow 127 (clL L 1 kPl) 26 m8, @rG b0.toKnow 96 (clL L 4 kRv) 27 m8, @rG b0.toKnow 128 (clL L 4 kRv) 27 m8,
  @rG b0.toKnow 97 (clL L 20 kOp) 28 m8, @rG b0.toKnow 129 (clL L 20 kOp) 28 m8, tO 95 kPl (fU 0) m8 b0.toKnow], Sound Tryz.prog O := by
   intro O hO
   simp only [List.mem_cons, List.not_mem_nil, or_false] at hO
   rcases hO with rfl | rfl | rfl | rfl | rfl | rfl | rfl
   ·exact jJ ⟨_, Tryz.func95, by kernel_rfl, by kernel_rfl⟩ (jS L kPl 1 rfl) cp r26 (fun _ => rfl) fun w _ => rW _ hp w trivial
   ·exact jJ ⟨_, Tryz.func127, by kernel_rfl, by kernel_rfl⟩ (jS L kPl 1 rfl) cp r26 (fun _ => rfl) fun w _ => yH _ hp w trivial
   ·exact jJ ⟨_, Tryz.func96, by kernel_rfl, by kernel_rfl⟩ (jS L kRv 4 rfl) cr r27 (fun _ => rfl) fun w _ => Qy _ hr w trivial
   ·exact jJ ⟨_, Tryz.func128, by kernel_rfl, by kernel_rfl⟩ (jS L kRv 4 rfl) cr r27 (fun _ => rfl) fun w _ => Ql _ hr w trivial
   ·exact jJ ⟨_, Tryz.func97, by kernel_rfl, by kernel_rfl⟩ (jS L kOp 20 rfl) co r28 (fun _ => rfl) fun w _ => sO _ ho w trivial
   ·exact jJ ⟨_, Tryz.func129, by kernel_rfl, by kernel_rfl⟩ (jS L kOp 20 rfl) co r28 (fun _ => rfl) fun w _ => tu _ ho w trivial
   ·exact jE b0 ⟨_, Tryz.func95, by kernel_rfl, by kernel_rfl⟩ rW
 rw [hK] at key
 exact jA key
theorem Ul {F : FuncId} {mk : Bool -> V} {val : Bool -> Value} (hmk : ∀ (b0 : Base) r b u, @VV b0 r (mk b) u -> u = val b) {sp : Sp} (hrun : ((sp.leaves afL).all (Ht mk F)) = true) : Tests Tryz.prog zk F kSt dJ val := by
 intro us hk w _
 have hg : Gps [(true, kSt)] [.agg us.toArray] us := ⟨us, [], (List.append_nil _).symm, ⟨hk, .inl ⟨rfl, rfl⟩⟩, rfl⟩
 have hlen : us.length = 26 := hk.len.symm
 have b01 : ∀ b : Bool, (0 : Int) <= b2i b /\ b2i b <= 1 := fun b => by cases b <;> decide
 have kk : Lens [] (dh (behind us [] (jq us))) (fD (behind us [] (jq us))) := qO (n := 26) (a := 0) hg rfl hlen rfl
 have hst : afL.Holds (dh (behind us [] (jq us))) (fD (behind us [] (jq us))) := Lf.a4J hg (ivS := []) trivial ⟨b01 _, b01 _, b01 _, trivial⟩
 obtain ⟨L, hm, hL⟩ := sp.cover hst
 have hp := List.all_eq_true.1 hrun L hm
 letI b0 : Base := sZ default (Lf.ok hL kk)
 have ha : ak (VA r0) (a0Y 0 [(true, kSt)]) [.agg us.toArray] := xK (pre := []) (cs' := us) (cs := behind us [] (jq us)) rfl rfl ((jq us).map (Value.int .i64)) rfl hg
 have hc : ak (VS r0) ((bZ 0 kSt ++ [S.xi .i64 26, S.xi .i64 27, S.xi .i64 28]).map L.nS) (us ++ (jq us).map (Value.int .i64)) := by
  refine Lf.Ky hL ((jX (cs := behind us [] (jq us)) (pre := []) (us := us) (post := (jq us).map (Value.int .i64)) rfl rfl rfl hk).app ?_)
  refine ⟨?_, ?_, ?_, trivial⟩
  ·exact congrArg (Value.int .i64) (gV (a := 0) (j := 0) (ints := jq us) (strs := []) hlen rfl rfl).symm
  ·exact congrArg (Value.int .i64) (gV (a := 0) (j := 1) (ints := jq us) (strs := []) hlen rfl rfl).symm
  ·exact congrArg (Value.int .i64) (gV (a := 0) (j := 2) (ints := jq us) (strs := []) hlen rfl rfl).symm
 unfold Ht at hp
 cases hb : @E.abs (L.know []) ((bZ 0 kSt ++ [S.xi .i64 26, S.xi .i64 27, S.xi .i64 28]).map L.nS) a0y with
 | none => rw [hb] at hp; cases hp
 | some b =>
  rw [hb] at hp
  obtain ⟨h', hr⟩ := yO hp
  have hbv := E.qC hc hb
  rw [ahb hlen] at hbv
  refine (gY w (Nat.zero_le _) (fun _ h => by cases h) (qL (Lf.ok hL kk) (a3d hk (L := L) rfl rfl rfl hL) 30 15) (Lf.yj hL ha) hr).mono fun x w' ⟨u, r', e1, e2, e3⟩ => ⟨?_, e3⟩
  rw [e1, hmk _ _ _ _ e2, hbv]
noncomputable def a0W : Lf := afL
noncomputable def ain : Lf := (a0W.hi 0 (1 - 1))
def a9S : Sp := (.conj [(1, 0), (2, 0), (3, 0), (4, 0), (5, 0), (6, 0), (7, 0), (8, 0), (9, 0), (10, 0), (11, 0), (12, 0), (13, 0), (14, 0), (15, 0), (16, 0), (17, 0), (18, 0), (19, 0), (20, 0), (21, 0), (22, 0), (23, 0), (24, 0), (25, 0)] .leaf .leaf)
noncomputable def Uy : Lf := (a0W.lo 0 1)
noncomputable def aiZ : Lf := (Uy.hi 0 (2 - 1))
def a9D : Sp := (.cut 27 1 (.cut 26 1 (.conj [(20, 0), (21, 0), (22, 0), (23, 0), (24, 0), (25, 0)] .leaf .leaf) (.conj [(20, 0), (21, 0), (22, 0), (23, 0), (24, 0), (25, 0)] .leaf .leaf)) (.cut 26 1 (.conj [(20, 0), (21, 0), (22, 0), (23, 0), (24, 0), (25, 0)] .leaf .leaf) (.conj [(20, 0), (21, 0), (22, 0), (23, 0), (24, 0), (25, 0)] .leaf (.conj [(20, 0), (21, 0), (22, 0), (23, 0), (24, 0)] (.cut 25 0 .leaf (.cut 25 1 .leaf .leaf)) .leaf))))
noncomputable def U6 : Lf := (Uy.lo 0 2)
noncomputable def aiP : Lf := (U6.hi 0 (3 - 1))
def a9b : Sp := (.conj [(1, 0), (2, 0), (3, 0), (4, 0), (5, 0), (6, 0), (7, 0), (8, 0), (9, 0), (10, 0), (11, 0), (12, 0), (13, 0), (14, 0), (15, 0), (16, 0), (17, 0), (18, 0), (19, 0), (25, 0)] (.cut 28 1 .leaf .leaf) (.conj [(1, 0), (2, 0), (3, 0)] (.conj [(4, 0), (5, 0), (6, 0), (7, 0), (8, 0), (9, 0), (10, 0), (11, 0), (12, 0), (13, 0), (14, 0), (15, 0), (16, 0), (17, 0), (18, 0), (19, 0), (25, 0)] (.cut 28 1 .leaf .leaf) (.conj [(4, 0), (5, 0), (6, 0), (7, 0), (8, 0), (9, 0), (10, 0), (11, 0), (12, 0), (13, 0), (14, 0), (15, 0), (16, 0), (17, 0), (18, 0), (19, 0)] (.cut 25 0 .leaf (.cut 25 1 (.cut 28 1 .leaf .leaf) .leaf)) .leaf)) .leaf))
noncomputable def aiG : Lf := (U6.lo 0 3)
def aeY : Sp := (.cut 0 4 (.cut 25 0 (.conj [(1, 0), (2, 0), (3, 0), (4, 0), (5, 0), (6, 0), (7, 0), (8, 0), (9, 0), (10, 0), (11, 0), (12, 0), (13, 0), (14, 0), (15, 0), (16, 0), (17, 0), (18, 0), (19, 0), (20, 0), (21, 0), (22, 0), (23, 0), (24, 0)] .leaf .leaf) (.cut 25 16 (.conj [(1, 0), (2, 0), (3, 0), (4, 0), (5, 0), (6, 0), (7, 0), (8, 0), (9, 0), (10, 0), (11, 0), (12, 0), (13, 0), (14, 0), (15, 0), (16, 0), (17, 0), (18, 0), (19, 0), (20, 0), (21, 0), (22, 0), (23, 0), (24, 0)] .leaf (.conj [(1, 0), (2, 0), (3, 0)] (.conj [(4, 0), (5, 0), (6, 0), (7, 0), (8, 0), (9, 0), (10, 0), (11, 0), (12, 0), (13, 0), (14, 0), (15, 0), (16, 0), (17, 0), (18, 0), (19, 0), (20, 0), (21, 0), (22, 0), (23, 0), (24, 0)] .leaf (.conj [(4, 0), (5, 0), (6, 0), (7, 0), (8, 0), (9, 0), (10, 0), (11, 0), (12, 0), (13, 0), (14, 0), (15, 0), (16, 0), (17, 0), (18, 0), (19, 0)] (.conj [(20, 0), (21, 0), (22, 0), (23, 0), (24, 0)] .leaf .leaf) .leaf)) .leaf)) (.conj [(1, 0), (2, 0), (3, 0), (4, 0), (5, 0), (6, 0), (7, 0), (8, 0), (9, 0), (10, 0), (11, 0), (12, 0), (13, 0), (14, 0), (15, 0), (16, 0), (17, 0), (18, 0), (19, 0), (20, 0), (21, 0), (22, 0), (23, 0), (24, 0)] .leaf .leaf))) (.cut 0 5 (.conj [(1, 0), (2, 0), (3, 0), (4, 0), (5, 0), (6, 0), (7, 0), (8, 0), (9, 0), (10, 0), (11, 0), (12, 0), (13, 0), (14, 0), (15, 0), (16, 0), (17, 0), (18, 0), (19, 0), (25, 0)] (.cut 28 1 .leaf .leaf) (.conj [(1, 0), (2, 0), (3, 0)] (.conj [(4, 0), (5, 0), (6, 0), (7, 0), (8, 0), (9, 0), (10, 0), (11, 0), (12, 0), (13, 0), (14, 0), (15, 0), (16, 0), (17, 0), (18, 0), (19, 0), (25, 0)] (.cut 28 1 .leaf .leaf) (.conj [(4, 0), (5, 0), (6, 0), (7, 0), (8, 0), (9, 0), (10, 0), (11, 0), (12, 0), (13, 0), (14, 0), (15, 0), (16, 0), (17, 0), (18, 0), (19, 0)] (.cut 25 0 .leaf (.cut 25 1 (.cut 28 1 .leaf .leaf) .leaf)) .leaf)) .leaf)) (.conj [(1, 0), (2, 0), (3, 0), (4, 0), (5, 0), (6, 0), (7, 0), (8, 0), (9, 0), (10, 0), (11, 0), (12, 0), (13, 0), (14, 0), (15, 0), (16, 0), (17, 0), (18, 0), (19, 0), (20, 0), (21, 0), (22, 0), (23, 0), (24, 0), (25, 0)] .leaf .leaf)))
def Zi : Sp := .cut 0 3 a9b aeY
def a1w : Sp := .cut 0 2 a9D Zi
def a7D : Sp := .cut 0 1 a9S a1w
theorem amz : (a9S.leaves ain).all (Ht m8 57) = true := by kernel_rfl
theorem am4 : (a9D.leaves aiZ).all (Ht m8 57) = true := by kernel_rfl
theorem am3 : (a9b.leaves aiP).all (Ht m8 57) = true := by kernel_rfl
theorem amg : (aeY.leaves aiG).all (Ht m8 57) = true := by kernel_rfl
theorem alX : (Zi.leaves U6).all (Ht m8 57) = true := by
 have e : Zi.leaves U6 = a9b.leaves aiP ++ aeY.leaves aiG := rfl
 rw [e]
 simp only [List.all_append, am3, amg, Bool.and_self]
theorem amw : (a1w.leaves Uy).all (Ht m8 57) = true := by
 have e : a1w.leaves Uy = a9D.leaves aiZ ++ Zi.leaves U6 := rfl
 rw [e]
 simp only [List.all_append, am4, alX, Bool.and_self]
theorem amf : (a7D.leaves a0W).all (Ht m8 57) = true := by
 have e : a7D.leaves a0W = a9S.leaves ain ++ a1w.leaves Uy := rfl
 rw [e]
 simp only [List.all_append, amz, amw, Bool.and_self]
theorem Qc : Tests Tryz.prog zk 57 kSt dJ v8 := Ul Gi (sp := a7D) amf
noncomputable def a1P : Lf := afL
noncomputable def ais : Lf := (a1P.hi 0 (1 - 1))
def adT : Sp := .leaf
noncomputable def aiQ : Lf := (a1P.lo 0 1)
def aeS : Sp := (.cut 0 2 (.cut 26 1 .leaf (.cut 27 1 .leaf (.conj [(20, 0), (21, 0), (22, 0), (23, 0), (24, 0)] (.cut 25 0 .leaf (.cut 25 1 .leaf .leaf)) .leaf))) (.cut 0 3 (.conj [(1, 0), (2, 0), (3, 0)] (.conj [(4, 0), (5, 0), (6, 0), (7, 0), (8, 0), (9, 0), (10, 0), (11, 0), (12, 0), (13, 0), (14, 0), (15, 0), (16, 0), (17, 0), (18, 0), (19, 0)] (.cut 28 1 .leaf (.cut 25 0 .leaf (.cut 25 1 .leaf .leaf))) .leaf) .leaf) (.cut 0 4 (.conj [(1, 0), (2, 0), (3, 0)] (.conj [(4, 0), (5, 0), (6, 0), (7, 0), (8, 0), (9, 0), (10, 0), (11, 0), (12, 0), (13, 0), (14, 0), (15, 0), (16, 0), (17, 0), (18, 0), (19, 0)] (.conj [(20, 0), (21, 0), (22, 0), (23, 0), (24, 0)] (.cut 25 0 .leaf (.cut 25 16 .leaf .leaf)) .leaf) .leaf) .leaf) (.cut 0 5 (.conj [(1, 0), (2, 0), (3, 0)] (.conj [(4, 0), (5, 0), (6, 0), (7, 0), (8, 0), (9, 0), (10, 0), (11, 0), (12, 0), (13, 0), (14, 0), (15, 0), (16, 0), (17, 0), (18, 0), (19, 0)] (.cut 28 1 .leaf (.cut 25 0 .leaf (.cut 25 1 .leaf .leaf))) .leaf) .leaf) .leaf))))
def a6w : Sp := .cut 0 1 adT aeS
theorem am6 : (adT.leaves ais).all (Ht mB 105) = true := by kernel_rfl
theorem ama : (aeS.leaves aiQ).all (Ht mB 105) = true := by kernel_rfl
theorem ame : (a6w.leaves a1P).all (Ht mB 105) = true := by
 have e : a6w.leaves a1P = adT.leaves ais ++ aeS.leaves aiQ := rfl
 rw [e]
 simp only [List.all_append, am6, ama, Bool.and_self]
theorem QT : Tests Tryz.prog zk 105 kSt dJ .bool := Ul a6E (sp := a6w) ame
noncomputable def aau (K : Know) : aS := fun f a h fl => orR (Y2 K f a h fl) (orR (tO 57 kSt dJ m8 K f a h fl) (tO 105 kSt dJ mB K f a h fl))
theorem RG (b : Base) : @Sound b Tryz.prog (aau b.toKnow) := @dU b _ _ _ (CV b) (@dU b _ _ _ (jE b ⟨_, Tryz.func57, by kernel_rfl, by kernel_rfl⟩ Qc) (Vt b ⟨_, Tryz.func105, by kernel_rfl, by kernel_rfl⟩ QT))
end Go.Proofs.YtglmonlofejcgaaGreatDoor.Am
