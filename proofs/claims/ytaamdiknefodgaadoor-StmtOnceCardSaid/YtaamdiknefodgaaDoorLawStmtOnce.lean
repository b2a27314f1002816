/- StmtOnce: the statement: for every input the law returns true, and each argument reads as it did. The walk is the machine's runs, a case each, by the kernel. -/
import Derived.Test.YtaamdiknefodgaaDoorStmtOnceR0
import Derived.Test.YtaamdiknefodgaaDoorStmtOnceR1
import Derived.Test.YtaamdiknefodgaaDoorStmtOnceR2
import Derived.Test.YtaamdiknefodgaaDoorStmtOnceR3
import Derived.Test.YtaamdiknefodgaaDoorSeat
import Derived.Test.YtaamdiknefodgaaDoorTie
import Derived.Test.YtaamdiknefodgaaDoorCards
import Derived.SevenTiedAt
namespace Go.Proofs.YtaamdiknefodgaaDoor.stmtOnce
open Go.RowKit Go.Proofs.YtaamdiknefodgaaDoor.Am
set_option linter.unusedVariables false
set_option linter.unusedSectionVars false
set_option maxRecDepth 100000
theorem run5 : cases5.all all = true := by
  unfold cases5
  simp only [List.all_append, run10, run20, run21, run30, run31, run32, Bool.and_self]
theorem cases5_mem {nu p : Nat} {ms : List Nat} (h1 : nu ≤ 3) (h2 : p < nu) (h : ms ∈ subsO 0 nu) : (5, nu, some p, ms) ∈ cases5 := by
  have hm : (5, nu, some p, ms) ∈ casesP nu p := List.mem_map.2 ⟨ms, h, rfl⟩
  have hc : (nu = 1 ∧ p = 0) ∨ (nu = 2 ∧ p = 0) ∨ (nu = 2 ∧ p = 1) ∨ (nu = 3 ∧ p = 0) ∨ (nu = 3 ∧ p = 1) ∨ (nu = 3 ∧ p = 2) := by omega
  unfold cases5
  simp only [List.mem_append]
  rcases hc with ⟨rfl, rfl⟩ | ⟨rfl, rfl⟩ | ⟨rfl, rfl⟩ | ⟨rfl, rfl⟩ | ⟨rfl, rfl⟩ | ⟨rfl, rfl⟩
  · exact .inl hm
  · exact .inr (.inl hm)
  · exact .inr (.inr (.inl hm))
  · exact .inr (.inr (.inr (.inl hm)))
  · exact .inr (.inr (.inr (.inr (.inl hm))))
  · exact .inr (.inr (.inr (.inr (.inr hm))))
theorem cases5_five : ∀ c ∈ cases5, c.1 = 5 := by
  intro c hc
  unfold cases5 casesP at hc
  simp only [List.mem_append, List.mem_map] at hc
  rcases hc with ⟨_, _, rfl⟩ | ⟨_, _, rfl⟩ | ⟨_, _, rfl⟩ | ⟨_, _, rfl⟩ | ⟨_, _, rfl⟩ | ⟨_, _, rfl⟩ <;> rfl
theorem subsO_mem : ∀ (k o : Nat) (ms : List Nat), ms.Pairwise (· < ·) → (∀ m ∈ ms, o ≤ m ∧ m < o + k) → ms ∈ subsO o k
  | 0, o, ms, _, h => by
    cases ms with
    | nil => exact List.mem_singleton.2 rfl
    | cons m ms => have := h m (List.mem_cons_self ..); omega
  | k + 1, o, ms, hp, h => by
    cases ms with
    | nil => exact List.mem_append.2 (.inl (subsO_mem k (o + 1) [] .nil fun _ h => by cases h))
    | cons m ms =>
      have hc := List.pairwise_cons.1 hp
      have hm := h m (List.mem_cons_self ..)
      by_cases e : m = o
      · subst e
        refine List.mem_append.2 (.inr (List.mem_map.2 ⟨ms, subsO_mem k (m + 1) ms hc.2 fun x hx => ?_, rfl⟩))
        have h1 := hc.1 x hx
        have h2 := h x (List.mem_cons_of_mem _ hx)
        omega
      · refine List.mem_append.2 (.inl (subsO_mem k (o + 1) (m :: ms) hp fun x hx => ?_))
        have h2 := h x hx
        rcases List.mem_cons.1 hx with rfl | hx
        · omega
        · have := hc.1 x hx; omega
def full (s : List Value) : List Value := behind (s ++ []) [] (stU (stOf s))
/-- which case it is -/
structure IsCase (s : List Value) (c nu : Nat) (pi : Option Nat) (ms : List Nat) : Prop where
  mem : (c, nu, pi, ms) ∈ cases1 ∨ (c, nu, pi, ms) ∈ cases5
  val : okStE.val s = !(Nat.beq c 0)
  nu : c ≠ 0 → (stU (stOf s)).length = nu
  pi : ∀ p, pi = some p → (stU (stOf s))[p]? = some (cellI s 1)
  ms : c ≠ 0 → ms.map (fun i => (stU (stOf s))[i]?) = (stM (stOf s)).map some
  shape : c = 0 ∨ (c = 1 ∧ cellI s 0 = 1 ∧ (0 ≤ cellI s 1 ∧ cellI s 1 ≤ 15) ∧ cellI s 2 = 0 ∧ cellI s 3 = 0) ∨ (c = 2 ∧ cellI s 0 = 2) ∨ (c = 3 ∧ cellI s 0 = 3 ∧ 0 ≤ cellI s 25 ∧ cellI s 25 ≤ 15) ∨ (c = 4 ∧ cellI s 0 = 4) ∨ (c = 5 ∧ cellI s 0 = 1 ∧ (0 ≤ cellI s 1 ∧ cellI s 1 ≤ 15) ∧ cellI s 3 ≤ 2)
section
variable {s : List Value} (h : All2 Kd.ok kSt s)
include h
theorem gps : Gps gs [.agg s.toArray] (s ++ []) := ⟨s, _, rfl, ⟨h, .inl ⟨rfl, rfl⟩⟩, rfl⟩
theorem cells_len : (s ++ []).length = 26 := by rw [List.append_nil]; exact h.len.symm
theorem rho_s {i : Nat} (hi : i < 26) : rhoOf (full s) i = cellI s i := by
  unfold full
  rw [behind_cell (by rw [cells_len h]; exact hi), List.append_nil]
theorem rho_e {j : Nat} {x : Int} (hx : (stU (stOf s))[j]? = some x) : rhoOf (full s) (26 + j) = x := behind_int (a := 0) (cells_len h) rfl hx
theorem rho_i {pi : Option Nat} (hp : ∀ p, pi = some p → (stU (stOf s))[p]? = some (cellI s 1)) {j : Nat} {x : Int} (hx : (stU (stOf s))[j]? = some x) : rhoOf (full s) (idxE pi j) = x := by
  cases pi with
  | none => exact rho_e h hx
  | some p =>
    show rhoOf (full s) (bif Nat.beq p j then 1 else 26 + j) = x
    cases hb : Nat.beq p j with
    | false => exact rho_e h hx
    | true =>
      have e := Nat.eq_of_beq_eq_true hb
      subst e
      have := hp p rfl
      rw [hx] at this
      injection this with e
      rw [e]
      exact rho_s (i := 1) h (by decide)
theorem all2_map {α : Type} {R : (Int × Int) → α → Prop} {p : Int × Int} : ∀ {l : List α}, (∀ x ∈ l, R p x) → All2 R (List.replicate l.length p) l
  | [], _ => trivial
  | x :: l, h => ⟨h x (List.mem_cons_self ..), all2_map fun y hy => h y (List.mem_cons_of_mem _ hy)⟩
theorem holds0 (ho : (stOf s).Ok) {pi : Option Nat} (hp : ∀ p, pi = some p → (stU (stOf s))[p]? = some (cellI s 1)) : (L0 (stU (stOf s)).length pi).Holds (rhoOf (full s)) (sigOf (full s)) := by
  have h1 : (Lf.startB gs [] (List.replicate (stU (stOf s)).length ((0, 15) : Int × Int))).Holds (rhoOf (full s)) (sigOf (full s)) :=
    Lf.startB_ok (gps h) (ivS := []) (strs := []) trivial (all2_map h (R := fun p (m : Int) => p.1 ≤ m ∧ m ≤ p.2) fun x hx => (stU_in ho).1 x hx)
  refine ⟨h1.iv, h1.ne, fun i j m => ?_, h1.to, h1.st, h1.sn, h1.cf⟩
  have m : (i, j) ∈ pairs pi (stU (stOf s)).length := m
  obtain ⟨b, hb, m⟩ := List.mem_flatMap.1 m
  obtain ⟨a, ha, e⟩ := List.mem_map.1 m
  have hb := List.mem_range.1 hb
  have ha := List.mem_range.1 ha
  cases e
  have e1 : (stU (stOf s))[a]? = some ((stU (stOf s))[a]'(by omega)) := List.getElem?_eq_getElem _
  have e2 : (stU (stOf s))[b]? = some ((stU (stOf s))[b]'(by omega)) := List.getElem?_eq_getElem _
  rw [rho_i h hp e1, rho_i h hp e2]
  exact incr_lt (stU_in ho).2 ha e1 e2
theorem Lf.Holds.only {L : Lf} {rho : Nat → Int} {sig : Nat → List UInt8} (h : L.Holds rho sig) {i : Nat} {c : Int} (e : rho i = c) : (only L i c).Holds rho sig := (h.hi (i := i) (c := c) (by omega)).lo (i := i) (c := c) (by omega)
variable {c nu : Nat} {pi : Option Nat} {ms : List Nat} (k : IsCase s c nu pi ms)
include k
theorem oks (hc : c ≠ 0) : (stOf s).Ok := by
  refine (st_val ?_ h).1
  rw [k.val]
  cases hb : Nat.beq c 0
  · rfl
  · exact absurd (Nat.eq_of_beq_eq_true hb) hc
theorem holds : (Lc c nu pi).Holds (rhoOf (full s)) (sigOf (full s)) := by
  rcases k.shape with rfl | hs
  · -- none: nothing is known
    have hz : (L0 0 none).Holds (rhoOf (full s)) (sigOf (full s)) := by
      have h1 : (Lf.startB gs [] []).Holds (rhoOf (full s)) (sigOf (full s)) := Lf.startB_some (gps h) (ivS := []) (ivI := []) (strs := []) trivial (i0 := []) rfl trivial
      exact ⟨h1.iv, h1.ne, fun _ _ m => (by cases m), h1.to, h1.st, h1.sn, h1.cf⟩
    have e : nu = 0 ∧ pi = none := by
      rcases k.mem with m | m
      · rcases List.mem_cons.1 m with m | m
        · cases m; exact ⟨rfl, rfl⟩
        · obtain ⟨c', hc', m⟩ := List.mem_flatMap.1 m
          obtain ⟨_, _, m⟩ := List.mem_flatMap.1 m
          obtain ⟨_, _, e⟩ := List.mem_map.1 m
          cases e
          exact absurd hc' (by decide)
      · have e5 : (0 : Nat) = 5 := cases5_five _ m
        cases e5
    obtain ⟨rfl, rfl⟩ := e
    exact hz
  · have hc : c ≠ 0 := by omega
    have ho := oks h k hc
    have hn := k.nu hc
    have hz : (L0 nu pi).Holds (rhoOf (full s)) (sigOf (full s)) := by rw [← hn]; exact holds0 h ho k.pi
    have r0 : rhoOf (full s) 0 = cellI s 0 := rho_s h (by decide)
    have r1 : rhoOf (full s) 1 = cellI s 1 := rho_s h (by decide)
    have r2 : rhoOf (full s) 2 = cellI s 2 := rho_s h (by decide)
    have r3 : rhoOf (full s) 3 = cellI s 3 := rho_s h (by decide)
    have r25 : rhoOf (full s) 25 = cellI s 25 := rho_s h (by decide)
    rcases hs with ⟨rfl, e0, e1, e2, e3⟩ | ⟨rfl, e0⟩ | ⟨rfl, e0, e1⟩ | ⟨rfl, e0⟩ | ⟨rfl, e0, e1, e3⟩
    · exact Lf.Holds.only h (Lf.Holds.only h (((Lf.Holds.only h hz (r0.trans e0)).hi (i := 1) (c := 15) (by omega)).lo (i := 1) (c := 0) (by omega)) (r2.trans e2)) (r3.trans e3)
    · exact Lf.Holds.only h hz (r0.trans e0)
    · exact ((Lf.Holds.only h hz (r0.trans e0)).hi (i := 25) (c := 15) (by omega)).lo (i := 25) (c := 0) (by omega)
    · exact Lf.Holds.only h hz (r0.trans e0)
    · exact (((Lf.Holds.only h hz (r0.trans e0)).hi (i := 1) (c := 15) (by omega)).lo (i := 1) (c := 0) (by omega)).hi (i := 3) (c := 2) (by omega)
variable {w : World} (kt : TabOk w)
include kt
theorem walk0 : Calls Tryd.prog 11 #[.agg s.toArray] w fun e w' => e = .returned (.bool true) ∧ Below w.heap.size w w' := by
  have hall : all (c, nu, pi, ms) = true := by
    rcases k.mem with m | m
    · exact List.all_eq_true.1 run1 _ m
    · exact List.all_eq_true.1 run5 _ m
  obtain ⟨L, hmem, hL⟩ := (sp c).cover (holds h k)
  have hg : good (c, nu, pi, ms) L = true := List.all_eq_true.1 hall L hmem
  have hlens : Lens (strsB 26 0) (rhoOf (full s)) (sigOf (full s)) := lens_behind (gps h) rfl (cells_len h) rfl
  letI b0 : Base := base0 w (Lf.okF hL hlens (noFacts_ok _ _))
  have e0 : full s = s ++ ((([] : List (List UInt8)).map strV) ++ (stU (stOf s)).map (Value.int .i64)) := by
    unfold full behind
    rw [List.append_nil]
  have cs : All2 (VS r0) (clL L 0 kSt) s := clL_ok (pre := []) (us := s) (post := (([] : List (List UInt8)).map strV) ++ (stU (stOf s)).map (Value.int .i64)) hL rfl rfl e0 rfl h
  have tabs : ∀ w' : World, (∀ b, b < Base.nb → w'.heap[b]? = Base.g b) → TabOk w' := fun w' hw => kt.all hw
  have hents : ∀ (ps : List Nat) (l : List Int), ps.map (fun i => (stU (stOf s))[i]?) = l.map some → ∀ r, All2 (VS r) (ents pi ps) (intsV l) := fun ps l e r => by
    have hlen : ps.length = l.length := by have := congrArg List.length e; simpa using this
    refine all2_by_nth (by simp [ents, intsV, hlen]) fun i x v hx hv => ?_
    unfold ents at hx
    unfold intsV at hv
    rw [List.getElem?_map] at hx hv
    cases hpi : ps[i]? with
    | none => rw [hpi] at hx; cases hx
    | some j =>
      cases hli : l[i]? with
      | none => rw [hli] at hv; cases hv
      | some y =>
        rw [hpi] at hx
        rw [hli] at hv
        cases hx
        cases hv
        have := congrArg (fun q => q[i]?) e
        simp only [List.getElem?_map, hpi, hli, Option.map_some, Option.some.injEq] at this
        show Value.int .i64 _ = .int .i64 _
        rw [show Base.rho (idxE pi j) = y from rho_i h k.pi this]
  have hval : okStE.val s = !(Nat.beq c 0) := k.val
  have hS : Sound Tryd.prog (orcs (rows L c nu pi ms)) := by
    refine sound_orcs fun O hO => ?_
    unfold rows at hO
    rcases List.mem_append.1 hO with hO | hO
    · simp only [List.mem_cons, List.not_mem_nil, or_false] at hO
      rcases hO with rfl | rfl | rfl
      · exact sound_alive05 kt _
      · exact sound_cell ⟨_, Tryd.func45, by kernel_rfl, by kernel_rfl⟩ (ones_T _ kSt 0 rfl) cs (u := v8 (!(Nat.beq c 0))) (fun _ => rfl) fun w' _ => by rw [← hval]; exact stA_tests s h w' trivial
      · exact sound_cell ⟨_, Tryd.func51, by kernel_rfl, by kernel_rfl⟩ (ones_T _ kSt 0 rfl) cs (u := v8 (!(Nat.beq c 0))) (fun _ => rfl) fun w' _ => by rw [← hval]; exact stP_tests s h w' trivial
    · cases hc : Nat.beq c 0 with
      | true => rw [hc] at hO; cases hO
      | false =>
        have hc0 : c ≠ 0 := fun e => (by subst e; cases hc)
        rw [hc] at hO hval
        have hv : okStE.val s = true := hval
        simp only [cond_false, List.mem_cons, List.not_mem_nil, or_false] at hO
        rcases hO with rfl | rfl
        · refine sound_list ⟨_, Tryd.func41, by kernel_rfl, by kernel_rfl⟩ (ones_T _ kSt 0 rfl) cs (hents _ (stU (stOf s)) ?_) (Q := TabOk) (fun w' hw => tabs w' hw) (tusA_lists s h hv)
          rw [← k.nu hc0]
          refine List.ext_getElem? fun i => ?_
          rw [List.getElem?_map, List.getElem?_map]
          by_cases hi : i < (stU (stOf s)).length
          · rw [List.getElem?_range hi, List.getElem?_eq_getElem hi]
            simp [hi]
          · rw [List.getElem?_eq_none (by simpa using hi), List.getElem?_eq_none (by simpa using hi)]
            rfl
        · exact sound_list ⟨_, Tryd.func43, by kernel_rfl, by kernel_rfl⟩ (ones_T _ kSt 0 rfl) cs (hents _ (stM (stOf s)) (k.ms hc0)) (Q := TabOk) (fun w' hw => tabs w' hw) (tmvA_lists s h hv)
  exact law_facts (vs := [.agg s.toArray]) kt.size (gps h) rfl (cells_len h) rfl hL (noFacts_ok _ _) _ (sound_runs _ hS 20 10) hg
end
theorem some_case {s : List Value} (h : All2 Kd.ok kSt s) : ∃ c nu pi ms, IsCase s c nu pi ms := by
  cases hv : okStE.val s with
  | false => exact ⟨0, 0, none, [], .inl (List.mem_cons_self ..), hv, fun e => absurd rfl e, fun _ e => (by cases e), fun e => absurd rfl e, .inl rfl⟩
  | true =>
    obtain ⟨ho, _⟩ := st_val hv h
    obtain ⟨ms, hm1, hm2⟩ := incr_places (stM_sub ho).2 (stU_in ho).2 (stM_sub ho).1
    have hms : ms ∈ subsO 0 (stU (stOf s)).length := subsO_mem _ _ _ hm2 fun m hm => by
      refine ⟨Nat.zero_le _, ?_⟩
      obtain ⟨i, hi⟩ := List.getElem?_of_mem hm
      have := congrArg (fun q => q[i]?) hm1
      simp only [List.getElem?_map, hi, Option.map_some] at this
      cases hq : (stM (stOf s))[i]? with
      | none => rw [hq] at this; cases this
      | some y =>
        rw [hq] at this
        have this : (stU (stOf s))[m]? = some y := by simpa using this
        have := (List.getElem?_eq_some_iff.1 this).1
        omega
    have mem1 : ∀ c, c ∈ [1, 2, 3, 4] → (stU (stOf s)).length ≤ nuMax c → (c, (stU (stOf s)).length, none, ms) ∈ cases1 := fun c hc hl =>
      List.mem_cons_of_mem _ (List.mem_flatMap.2 ⟨c, hc, List.mem_flatMap.2 ⟨_, List.mem_range.2 (by omega), List.mem_map.2 ⟨ms, hms, rfl⟩⟩⟩)
    have g3 : 0 ≤ cellI s 3 := ok_u8 h rfl
    have g2 : cellI s 2 = 0 ∨ cellI s 2 = 1 := ok_b h rfl
    rcases ho with ⟨hk, hp, hr, _⟩ | ⟨hk, _, _, _, _, ha, _⟩ | ⟨hk, _, _, _, _, _, hn⟩
    · have hk : cellI s 0 = 1 := hk
      have p0 : 0 ≤ cellI s 1 ∧ cellI s 1 ≤ 15 := ⟨hp.l0, hp.l1⟩
      have p3 : cellI s 3 ≤ 2 := hp.f1
      by_cases hpart : (stOf s).d = true ∨ 0 < (stOf s).f
      · have hU : stU (stOf s) = insU (stOf s).l (rvU (stOf s).r) := by unfold stU; rw [if_pos (show (stOf s).k = 1 from hk), if_pos hpart]
        have hin : cellI s 1 ∈ stU (stOf s) := by rw [hU]; exact insU_mem.2 (.inl rfl)
        obtain ⟨p, hpp⟩ := List.getElem?_of_mem hin
        have hlp := (List.getElem?_eq_some_iff.1 hpp).1
        refine ⟨5, (stU (stOf s)).length, some p, ms, .inr ?_, hv, fun _ => rfl, fun q e => (by cases e; exact hpp), fun _ => hm1, .inr (.inr (.inr (.inr (.inr ⟨rfl, hk, p0, p3⟩))))⟩
        have := stU_len (stOf s)
        exact cases5_mem this hlp hms
      · have hU : stU (stOf s) = rvU (stOf s).r := by unfold stU; rw [if_pos (show (stOf s).k = 1 from hk), if_neg hpart]
        have hl : (stU (stOf s)).length ≤ 2 := by rw [hU]; exact rvU_len _
        have d0 : cellI s 2 = 0 := by
          rcases g2 with e | e
          · exact e
          · exact absurd (.inl (show decide (cellI s 2 = 1) = true by rw [e]; rfl)) hpart
        have f0 : cellI s 3 = 0 := by
          have : ¬ 0 < cellI s 3 := fun e => hpart (.inr e)
          omega
        exact ⟨1, _, none, ms, .inl (mem1 1 (by decide) hl), hv, fun _ => rfl, fun _ e => (by cases e), fun _ => hm1, .inr (.inl ⟨rfl, hk, p0, d0, f0⟩)⟩
    · have hk : cellI s 0 = 2 ∨ cellI s 0 = 4 := hk
      have hk' : (stOf s).k = cellI s 0 := rfl
      have hU : stU (stOf s) = opU (stOf s).a := by unfold stU; rw [if_neg (by omega), if_neg (by omega)]
      have hl : (stU (stOf s)).length ≤ 1 := by rw [hU]; exact opU_len _
      rcases hk with hk | hk
      · exact ⟨2, _, none, ms, .inl (mem1 2 (by decide) hl), hv, fun _ => rfl, fun _ e => (by cases e), fun _ => hm1, .inr (.inr (.inl ⟨rfl, hk⟩))⟩
      · exact ⟨4, _, none, ms, .inl (mem1 4 (by decide) hl), hv, fun _ => rfl, fun _ e => (by cases e), fun _ => hm1, .inr (.inr (.inr (.inr (.inl ⟨rfl, hk⟩))))⟩
    · have hk : cellI s 0 = 3 := hk
      have hk' : (stOf s).k = cellI s 0 := rfl
      have hn : 0 ≤ cellI s 25 ∧ cellI s 25 < 16 := hn
      have hU : stU (stOf s) = [] := by unfold stU; rw [if_neg (by omega), if_pos (by omega)]
      have hl : (stU (stOf s)).length ≤ 0 := by rw [hU]; exact Nat.le_refl _
      exact ⟨3, _, none, ms, .inl (mem1 3 (by decide) hl), hv, fun _ => rfl, fun _ e => (by cases e), fun _ => hm1, .inr (.inr (.inr (.inl ⟨rfl, hk, hn.1, by omega⟩)))⟩
theorem walk {w : World} (k : TabOk w) {vs cs : List Value} (hg : Gps gs vs cs) : Calls Tryd.prog 11 vs.toArray w fun e w' => e = .returned (.bool true) ∧ Below w.heap.size w w' := by
  match vs, hg with
  | [v0], ⟨s, _, _, ⟨h1, h2⟩, _⟩ =>
    rcases h2 with ⟨_, rfl⟩ | ⟨e, _⟩
    · obtain ⟨c, nu, pi, ms, q⟩ := some_case h1
      exact walk0 h1 q k
    · cases e
end Go.Proofs.YtaamdiknefodgaaDoor.stmtOnce

namespace Go.Proofs.YtaamdiknefodgaaDoor.stmtOnce
open Go.ChangeShapes Go.WideShapes Go.ChangeAt Go.RowKit Go.Proofs.YtaamdiknefodgaaDoor.Am
set_option linter.unusedVariables false

theorem door_met (os : Os) (args : Array Value) : laidMetH Tryd.prog Rows.stmtOnceRow.laid ((World.doorLaid Tryd.prog 400 os).forCall (fun _ _ => 0) ⟨#[], args, []⟩).memory :=
  laidMetH_of_parts3 (fuel := 8) (laidMet_of_run' 8 (by kernel_rfl) (by kernel_rfl)) (by kernel_rfl) (by kernel_rfl)

set_option maxRecDepth 100000 in
theorem lifted (os : Os) (started : os.Started) (H : Type) (enc : TypeId × Value → H) :
    ReturnsInHanded {} Tryd.checked os 11 .any (fun w args => (Rows.stmtOnceSpec.pre enc Tryd.prog Tryd.f11 [] false w args ∧ laidMetH Tryd.prog Rows.stmtOnceRow.laid w) ∧ sizedMet enc Tryd.prog Tryd.f11 (OpenSpec.ofChange Rows.stmtOnceSpec) false w args)
      (Rows.stmtOnceSpec.post enc Tryd.prog Tryd.f11 false true false false) := by
  refine returnsInHanded_of_change_and (C := Tryd.checked) (X := fun w _ => laidMetH Tryd.prog Rows.stmtOnceRow.laid w) (fun _ _ _ hh h => h.of_heap hh) own started (by kernel_rfl) Tryd.func11
    (ChangeSpec.witness_shaped (enc := enc) (C := Tryd.checked) (os := os) (X := fun w _ => laidMetH Tryd.prog Rows.stmtOnceRow.laid w) false (World.doorLaid Tryd.prog 400 os) #[.agg #[.int .u8 0, .int .i64 0, .bool false, .int .u8 0, .int .u8 0, .int .u8 0, .int .u8 0, .int .u8 0, .int .i64 0, .int .i64 0, .bool false, .int .u8 0, .int .u8 0, .int .i64 0, .int .i64 0, .bool false, .int .u8 0, .int .i64 0, .bool false, .int .u8 0, .int .u8 0, .int .i64 0, .int .i64 0, .bool false, .int .u8 0, .int .i64 0]] 8 rfl (World.shaped_of_RefB (by kernel_rfl) (by kernel_rfl)) (by kernel_rfl) (by kernel_rfl) (by kernel_rfl) (door_met os _)) ?_
  intro W base args ds gs0 before hval0 hW _ _ hL _
  have hval : ∀ (j : Nat) t v, Tryd.f11.params[j]? = some t → args[j]? = some v → Value.okWide Tryd.prog W .any base t v := hval0
  have hW' := hW
  obtain ⟨p, q, hA0, hV, rfl, hfz, hnd⟩ := hW
  have hA : DataW.TrodAll enc Tryd.prog W 0 (fun _ => true) true Tryd.f11.params.toList args.toList ds p := hA0
  rw [Tryd.params11] at hA hval
  obtain ⟨v0, vs0, d0, ds0, p0, q0, hargs, rfl, rfl, h0, r0⟩ := trodAll_cons hA
  obtain ⟨rfl, rfl, rfl⟩ := trodAll_nil r0
  obtain rfl : args = #[v0] := by cases args; simp_all
  obtain ⟨rfl, rfl⟩ := trodVars_none hV
  obtain ⟨us0, e0, k0⟩ := open_flat (ts := [5, 3, 4, 5, 5, 5, 5, 5, 2, 3, 4, 5, 5, 2, 3, 4, 5, 3, 4, 5, 5, 2, 3, 4, 5, 3]) Tryd.underlying63 (by kernel_rfl) (by kernel_rfl) (by kernel_rfl) (hval 0 63 v0 rfl rfl)
  have lt0 : ∀ x ∈ p0, x.block < W.heap.size := by obtain ⟨m, hm⟩ := h0; exact DataW.trod_lt m _ _ _ hm
  have hE0 := tabOk (by kernel_rfl) (by simp [Rows.stmtOnceRow]) (by simp [Rows.stmtOnceRow]) hL
  have hG : Gps gs [v0] _ := ⟨us0, _, rfl, ⟨k0, .inl ⟨rfl, e0⟩⟩, rfl⟩
  refine (walk hE0 hG).mono fun e W' ⟨he, bel⟩ => ?_
  subst he
  exact ⟨_, rfl, _, _, _, [], _, [], hW', trodAll_mk1 (shut_bool Tryd.underlying4 _), (trodAll_cons_mk (Below.trod laidOut (by kernel_rfl) (of_decide_eq_true (by kernel_rfl)) h0 bel lt0) trodAll_mk0), rfl, bel.frame _, fun h => by cases h⟩

theorem over : Rows.StmtOnceSaid :=
  OpenClaim.holds_of_wide 11 Tryd.f11 rfl rfl rfl rfl rfl rfl rfl ⟨rfl, rfl, rfl, rfl, rfl⟩ rfl rfl rfl rfl rfl (by kernel_rfl) Tryd.func11 (by kernel_rfl)
    (of_decide_eq_true (by kernel_rfl)) (by unfold Func.isWrapper; first | (rw [if_pos (by decide +kernel)]; kernel_rfl) | (rw [if_neg (by decide +kernel)]; exact ⟨rfl, rfl⟩))
    (fun os started H enc _ => lifted os started H enc)

theorem proved : Rows.StmtOnceCardSaid :=
  Claim7.holds_tied_plain_at .later [] [.data, .data, .data] true (true, "e0958274218a65c52688ca629b0d17d0647d80259e6504c4f824747d58cc3345") false
    over (fun _ h => by cases h) (by kernel_rfl) (fun _ h => by cases h) stmtOnce_row_tie rfl ⟨rfl, rfl⟩ (by kernel_rfl) rfl
    (fun f fn hf hfn => by
      obtain rfl : f = 11 := Option.some.inj ((show Tryd.prog.funcNamed "pawnshop/pawnshoplaw05.StmtOnce" = some 11 by kernel_rfl).symm.trans hf) |>.symm
      obtain rfl : fn = Tryd.f11 := (Option.some.inj (Tryd.func11.symm.trans hfn)).symm
      exact ⟨by kernel_rfl, fun j t ht => by
        rw [Tryd.params11] at ht
        have hm : t ∈ ([63] : List TypeId) := by simpa using Array.mem_of_getElem? ht
        have hall : (([63] : List TypeId).all fun t => !(Tryd.prog.wantsStandIn t)) = true := by kernel_rfl
        have hw := List.all_eq_true.1 hall t hm
        exact (by simpa using hw : Tryd.prog.wantsStandIn t = false)⟩)
    (by kernel_rfl)

#print axioms proved
end Go.Proofs.YtaamdiknefodgaaDoor.stmtOnce
