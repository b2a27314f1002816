/- fnshape.made answers by madeF. Counters: rows of sixteen numbers, of which one goes up where a local says; loops with a head for each round. (No program in sight but for the last words.) fnshape.twos, as the machine runs its loops. fnshape.twos, as the machine runs its loops: arguments, blocks, the last one. What twos counts: sums over statements, operands, blocks; locals that are in range. (No run of the program.) -/
import Derived.Test.YthdcahkedlijpaaGreatFn5
namespace Go.Proofs.YthdcahkedlijpaaGreat.Am
open Go.RowKit
set_option maxRecDepth 100000
theorem okJ_len {pre post : List Value} {els : List (List Value)} (hp : pre.length = 9) (h : okJ pre els post = true) : els.length ≤ 8 := by
  have e9 : ∀ l, cellI (flatJ pre els post ++ l) 9 = (els.length : Int) := fun l => by
    unfold cellI flatJ
    rw [List.append_assoc, List.getElem?_append_right (by omega), hp]
    rfl
  unfold okJ at h
  rw [E.val_num] at h
  generalize hl : (bitsJ pre els post).map (Value.int .i64) = l at h
  have e9 := e9 l
  generalize hv : flatJ pre els post ++ l = vs at h e9
  simp only [okJB, E.num, E.ands, zs, inRE, Bool.or_eq_true, Bool.and_eq_true, decide_eq_true_eq, List.all_cons, List.all_nil, List.all_map] at h
  rcases h with h | h | h | h
  · have := List.all_eq_true.1 h.2.2.2 1 (by decide)
    simp only [Function.comp, decide_eq_true_eq] at this
    rw [show (8 + 1 : Nat) = 9 from rfl] at this
    omega
  · have := List.all_eq_true.1 h.2.2.2.2.2 0 (by decide)
    simp only [Function.comp, decide_eq_true_eq] at this
    rw [show (9 + 0 : Nat) = 9 from rfl] at this
    omega
  · have := List.all_eq_true.1 h.2 8 (by decide)
    simp only [Function.comp, decide_eq_true_eq] at this
    rw [show (1 + 8 : Nat) = 9 from rfl] at this
    omega
  · have := h.2.2.2.2.2.1
    omega
end Go.Proofs.YthdcahkedlijpaaGreat.Am
namespace Go.Proofs.YthdcahkedlijpaaGreat.made
open Go.RowKit Go.Proofs.YthdcahkedlijpaaGreat.Am
set_option maxRecDepth 100000
set_option linter.unusedVariables false
set_option linter.unusedSectionVars false
section
variable {w : World} {v : Value} {D : FnD} (h : FnOk' w v D)
include h
theorem made_ans (hL : D.ls.length ≤ 16) (hB : D.bs.length ≤ 24) (hS : ∀ b ∈ D.bs, b.st.length ≤ 24) : Answers f [v] w (.bool (madeF D)) := by
  have hS' : ∀ b ∈ D.bs, b.st.length ≤ 1000 ∧ (okJF b = true → b.ops.length ≤ 1000) := fun b hb => ⟨by have := hS b hb; omega, fun e => by
    have h1 := (h.blk b hb).prek.len
    have h2 := okJ_len (by rw [← h1]; rfl) e
    omega⟩
  have out := fun r (m : List Int) => outer h r (m := m) (fun _ => trivial) (by omega) hS'
  let a : Bool := D.bs.all (outB D.ls.length D.bs.length)
  let m : Bool → List Int := fun r => [0, b2i (r && a)]
  have lib : ∀ r hb, head.headF D = hb → ∀ K (ok : KnowOk K (fnB w D (atB 0) (m r)).rho (fnB w D (atB 0) (m r)).sig), @Sound ((fnB w D (atB 0) (m r)).withK K ok) Tryz.prog (libH hb K) := fun r hb e =>
    row_fnD h ⟨_, Tryz.func68, by kernel_rfl, by kernel_rfl⟩ (fun b0 r => vmB b0 r hb) (atB 0) (m r) fun w' hw => e ▸ head.head_ans hw (by omega)
  have LMh : ∀ r, LM.Holds (xsAt (fnXs D (atB 0) (m r))) (fun _ => []) := fun r => fn_start h (q := atB 0) (fits_B (by omega)) (iv := [ivB, ivB]) (m1 := [0, b2i (r && a)]) (m2 := []) ⟨⟨by decide, by decide⟩, in_b _, trivial⟩ _
  have good : ∀ r hb, head.headF D = hb → D.bs.all okB = true → RigOk Tryz.prog (rigP (libH hb) tabF fun K => rowsL [(f, rowM r (.exit 0) sNO K)]) (fnB w D (atB 0) (m r)) := fun r hb e hok =>
    rig_ok (lib r hb e) (tabF_ok h _ _) (rows_ok (T := fun K => [(f, rowM r (.exit 0) sNO K)]) fun K ok p hp => by
      obtain rfl := List.mem_singleton.1 hp
      exact ⟨F, Tryz.func45, fun c hc => row_fn tagO ((out r (m r)).1 hok rfl K ok) hc⟩)
  have bad : ∀ r hb, head.headF D = hb → D.bs.all okB = false → RigOk Tryz.prog (rigP (libH hb) tabF fun K => rowsL [(f, rowM r .ret sRO K)]) (fnB w D (atB 0) (m r)) := fun r hb e hok =>
    rig_ok (lib r hb e) (tabF_ok h _ _) (rows_ok (T := fun K => [(f, rowM r .ret sRO K)]) fun K ok p hp => by
      obtain rfl := List.mem_singleton.1 hp
      exact ⟨F, Tryz.func45, fun c hc => row_fn tagO ((out r (m r)).2 hok K ok) hc⟩)
  have ans : ∀ r x, @VV (fnB w D (atB 0) (m r)) x (V.s (.xe [(78, 1)])) = fun u => u = .bool (r && a) := fun r x => by
    funext u
    show (u = .bool (decide (xsAt (fnXs D (atB 0) (m r)) (77 + 1) = 1) || false)) = _
    rw [fn_more, Bool.or_false]
    show (u = .bool (decide (b2i (r && a) = 1))) = _
    rw [dec_b2i]
  cases hok : D.bs.all okB with
  | false =>
    have hm : madeF D = false := by unfold madeF; rw [hok]; simp
    rw [hm]
    cases hb : head.headF D with
    | false => exact fn_call h bad0 (bad false false hb hok) (LMh false) (fnFx_ok D _ _) (fun p hp => by cases hp) (fun r x hx => hx)
    | true =>
      by_cases hn : 0 < D.bs.length
      · exact fn_call h bad1 (bad true true hb hok) ((LMh true).lo (i := 3) (c := 1) (show (1 : Int) ≤ (D.bs.length : Int) by omega)) (fnFx_ok D _ _) (fun p hp => by cases hp) (fun r x hx => hx)
      · exact fn_call h bad2 (bad false true hb hok) ((LMh false).hi (i := 3) (c := 0) (show (D.bs.length : Int) ≤ 0 by omega)) (fnFx_ok D _ _) (fun p hp => by cases hp) (fun r x hx => hx)
  | true =>
    have hm : madeF D = (head.headF D && (decide (0 < D.bs.length) && a)) := by unfold madeF; rw [hok, Bool.true_and]
    rw [hm]
    cases hb : head.headF D with
    | false => exact fn_call h good0 (good false false hb hok) (LMh false) (fnFx_ok D _ _) (fun p hp => by cases hp) (fun r x hx => by rw [ans] at hx; exact hx)
    | true =>
      by_cases hn : 0 < D.bs.length
      · rw [decide_eq_true hn]
        exact fn_call h good1 (good true true hb hok) ((LMh true).lo (i := 3) (c := 1) (show (1 : Int) ≤ (D.bs.length : Int) by omega)) (fnFx_ok D _ _) (fun p hp => by cases hp) (fun r x hx => by rw [ans] at hx; exact hx)
      · rw [decide_eq_false hn]
        exact fn_call h good2 (good false true hb hok) ((LMh false).hi (i := 3) (c := 0) (show (D.bs.length : Int) ≤ 0 by omega)) (fnFx_ok D _ _) (fun p hp => by cases hp) (fun r x hx => by rw [ans] at hx; exact hx)
end
end Go.Proofs.YthdcahkedlijpaaGreat.made
namespace Go.Proofs.YthdcahkedlijpaaGreat.Am
open Go.RowKit
set_option maxRecDepth 100000
set_option linter.unusedVariables false
set_option linter.unusedSectionVars false
def row16 (f : Nat → Int) : List Int := (List.range 16).map f
def rows16 : List (Nat → Int) → List Int
  | [] => []
  | f :: r => row16 f ++ rows16 r
theorem row16_len (f : Nat → Int) : (row16 f).length = 16 := by simp [row16]
theorem rows16_len : ∀ fs : List (Nat → Int), (rows16 fs).length = 16 * fs.length
  | [] => rfl
  | f :: r => by rw [rows16, List.length_append, row16_len, rows16_len r, List.length_cons]; omega
theorem rows16_at : ∀ (fs : List (Nat → Int)) (tail : List Int) (b j : Nat) (f : Nat → Int), fs[b]? = some f → j < 16 → xsAt (rows16 fs ++ tail) (16 * b + j) = f j
  | [], _, b, j, f, h, _ => by simp at h
  | g :: r, tail, 0, j, f, h, hj => by
    cases h
    rw [Nat.mul_zero, Nat.zero_add, rows16, List.append_assoc]
    unfold xsAt row16
    rw [List.getD_eq_getElem?_getD, List.getElem?_append_left (by simpa using hj), List.getElem?_map, List.getElem?_range hj]
    rfl
  | g :: r, tail, b + 1, j, f, h, hj => by
    rw [rows16, List.append_assoc, show 16 * (b + 1) + j = 16 + (16 * b + j) by omega, xsAt_ge (row16_len g)]
    exact rows16_at r tail b j f (by simpa using h) hj
theorem rows16_tail (fs : List (Nat → Int)) (tail : List Int) (j : Nat) : xsAt (rows16 fs ++ tail) (16 * fs.length + j) = xsAt tail j := xsAt_ge (rows16_len fs)
def nm (b j : Nat) : Nat := 77 + (16 * b + j)
def cells16 (b : Nat) : List S := (List.range 16).map fun j => .xi .i64 (nm b j)
def bits16 (b : Nat) : List S := (List.range 16).map fun j => .xe [(nm b j, 1)]
structure Cnt where
  src : Nat
  dst : Nat
  l : Nat
  m : Nat
def trX (T : List Cnt) : XTab := { fnFx.xt with ld := T.map fun t => (cells16 t.src, t.l, t.m), sr := T.map fun t => (cells16 t.src, t.l, t.m + 1, cells16 t.dst) }
def trFx (T : List Cnt) : Fx := ⟨T.map fun t => (t.m, 1, t.m + 1), trX T⟩
def bump (F : Nat → Int) (l : Int) (j : Nat) : Int := F j + b2i (decide (l = j))
structure CntOk (rho : Nat → Int) (t : Cnt) : Prop where
  ex : ∃ F : Nat → Int, (∀ j, j < 16 → rho (nm t.src j) = F j) ∧ (∀ j, j < 16 → rho (nm t.dst j) = bump F (rho t.l) j) ∧ rho t.m = F (rho t.l).toNat ∧ rho (t.m + 1) = rho t.m + 1
  lo : -9223372036854775808 ≤ rho (t.m + 1)
  hi : rho (t.m + 1) ≤ 9223372036854775807
theorem cells16_at {b j : Nat} {c : S} (h : (cells16 b)[j]? = some c) : j < 16 ∧ c = .xi .i64 (nm b j) := by
  have hj : j < 16 := by have := (List.getElem?_eq_some_iff.1 h).1; simpa [cells16] using this
  unfold cells16 at h
  rw [List.getElem?_map, List.getElem?_range hj] at h
  cases h
  exact ⟨hj, rfl⟩
theorem trFx_ok {T : List Cnt} {rho : Nat → Int} (h0 : FxOk fnFx rho) (h : ∀ t ∈ T, CntOk rho t) : FxOk (trFx T) rho := by
  refine ⟨fun i c k hm => ?_, ⟨h0.xt.lf, h0.xt.sm, fun cs i m hm j c hc hj => ?_, fun cs i m ds hm => ?_, h0.xt.eq⟩⟩
  · have hm : (i, c, k) ∈ T.map fun t => (t.m, (1 : Int), t.m + 1) := hm
    obtain ⟨t, ht, e⟩ := List.mem_map.1 hm
    cases e
    have k := h t ht
    obtain ⟨F, _, _, _, e⟩ := k.ex
    exact ⟨e.symm, k.lo, k.hi⟩
  · have hm : (cs, i, m) ∈ T.map fun t => (cells16 t.src, t.l, t.m) := hm
    obtain ⟨t, ht, e⟩ := List.mem_map.1 hm
    cases e
    obtain ⟨F, h1, _, h3, _⟩ := (h t ht).ex
    obtain ⟨hj', rfl⟩ := cells16_at hc
    show some (rho (nm t.src j)) = some (rho t.m)
    rw [h1 j hj', h3, hj, Int.toNat_natCast]
  · have hm : (cs, i, m, ds) ∈ T.map fun t => (cells16 t.src, t.l, t.m + 1, cells16 t.dst) := hm
    obtain ⟨t, ht, e⟩ := List.mem_map.1 hm
    cases e
    obtain ⟨F, h1, h2, h3, h4⟩ := (h t ht).ex
    refine ⟨by simp [cells16], fun j c d hc hd => ?_⟩
    obtain ⟨hj, rfl⟩ := cells16_at hc
    obtain ⟨_, rfl⟩ := cells16_at hd
    refine ⟨F j, by show some _ = some _; rw [h1 j hj], ?_⟩
    show some (rho (nm t.dst j)) = some _
    rw [h2 j hj]
    unfold bump
    by_cases e : rho t.l = (j : Int)
    · rw [if_pos e, decide_eq_true e, h4, h3, e, Int.toNat_natCast]
      rfl
    · rw [if_neg e, decide_eq_false e]
      show some (F j + 0) = _
      rw [Int.add_zero]
theorem fn_row {D : FnD} {q : At} {fs : List (Nat → Int)} {tail : List Int} {b : Nat} {f : Nat → Int} (h : fs[b]? = some f) {j : Nat} (hj : j < 16) : xsAt (fnXs D q (rows16 fs ++ tail)) (nm b j) = f j := by
  show xsAt _ (77 + (16 * b + j)) = _
  rw [fn_more, rows16_at fs tail b j f h hj]
theorem fn_tail {D : FnD} {q : At} {fs : List (Nat → Int)} {tail : List Int} {n : Nat} (hn : fs.length = n) (j : Nat) : xsAt (fnXs D q (rows16 fs ++ tail)) (77 + (16 * n + j)) = xsAt tail j := by
  rw [fn_more, ← hn, rows16_tail]
def pickU (b : Nat) (es : List E) (pick : List Bool → Nat) (j : Nat) : Upd := ⟨.xi .i64 (nm b j), es, fun bs => .xi .i64 (nm (pick bs) j)⟩
def pickU16 (b : Nat) (es : List E) (pick : List Bool → Nat) : List Upd := (List.range 16).map (pickU b es pick)
theorem pickU_ok {b1 b2 : Base} {b : Nat} {es : List E} {pick : List Bool → Nat} (h : ∀ j, j < 16 → b1.rho (nm (pick (es.map (E.num b1.rho))) j) = b2.rho (nm b j)) : ∀ u ∈ pickU16 b es pick, UpdOk b1 b2 u := by
  intro u hu r v hv
  obtain ⟨j, hj, rfl⟩ := List.mem_map.1 hu
  have hv : v = .int .i64 (b1.rho (nm (pick (es.map (E.num b1.rho))) j)) := hv
  show v = .int .i64 (b2.rho (nm b j))
  rw [hv, h j (List.mem_range.1 hj)]
def bitU16 (b src l : Nat) (e : E) : List Upd := (List.range 16).map fun j => ⟨.xe [(nm b j, 1)], [e], fun bs => bif bs.headD false then .xe [(l, (j : Int)), (nm src j, 1)] else .xe [(nm src j, 1)]⟩
theorem bitU16_ok {b1 b2 : Base} {b src l : Nat} {e : E} (h : ∀ j, j < 16 → (b2.rho (nm b j) = 1 ↔ ((e.num b1.rho = true ∧ b1.rho l = (j : Int)) ∨ b1.rho (nm src j) = 1))) : ∀ u ∈ bitU16 b src l e, UpdOk b1 b2 u := by
  intro u hu r v hv
  obtain ⟨j, hj, rfl⟩ := List.mem_map.1 hu
  have hj := List.mem_range.1 hj
  have hv : @VS b1 r (bif e.num b1.rho then .xe [(l, (j : Int)), (nm src j, 1)] else .xe [(nm src j, 1)]) v := hv
  show v = .bool (decide (b2.rho (nm b j) = 1) || false)
  rw [Bool.or_false]
  have hk := h j hj
  by_cases he : e.num b1.rho = true
  · rw [he, cond_true] at hv
    have hv : v = .bool (decide (b1.rho l = (j : Int)) || (decide (b1.rho (nm src j) = 1) || false)) := hv
    rw [hv, Bool.or_false]
    congr 1
    by_cases h1 : b1.rho l = (j : Int) <;> by_cases h2 : b1.rho (nm src j) = 1 <;> simp [h1, h2, he] at hk ⊢ <;> simp [hk]
  · rw [Bool.not_eq_true] at he
    rw [he, cond_false] at hv
    have hv : v = .bool (decide (b1.rho (nm src j) = 1) || false) := hv
    rw [hv, Bool.or_false]
    congr 1
    by_cases h2 : b1.rho (nm src j) = 1 <;> simp [h2, he] at hk ⊢ <;> simp [hk]
def zeroU16 (b : Nat) : List Upd := (List.range 16).map fun j => isU (.xi .i64 (nm b j)) (.int .i64 0)
theorem zeroU16_ok {b1 b2 : Base} {b : Nat} (h : ∀ j, j < 16 → b2.rho (nm b j) = 0) : ∀ u ∈ zeroU16 b, UpdOk b1 b2 u := by
  intro u hu r v hv
  obtain ⟨j, hj, rfl⟩ := List.mem_map.1 hu
  have hv : v = .int .i64 0 := hv
  show v = .int .i64 (b2.rho (nm b j))
  rw [hv, h j (List.mem_range.1 hj)]
def falseU16 (b : Nat) : List Upd := (List.range 16).map fun j => isU (.xe [(nm b j, 1)]) (.bool false)
theorem falseU16_ok {b1 b2 : Base} {b : Nat} (h : ∀ j, j < 16 → b2.rho (nm b j) = 0) : ∀ u ∈ falseU16 b, UpdOk b1 b2 u := by
  intro u hu r v hv
  obtain ⟨j, hj, rfl⟩ := List.mem_map.1 hu
  have hv : v = .bool false := hv
  show v = .bool (decide (b2.rho (nm b j) = 1) || false)
  rw [hv, h j (List.mem_range.1 hj)]
  rfl
def sameU16 (b src : Nat) : List Upd := pickU16 b [] fun _ => src
def sameB16 (b src : Nat) : List Upd := (List.range 16).map fun j => isU (.xe [(nm b j, 1)]) (.xe [(nm src j, 1)])
theorem sameB16_ok {b1 b2 : Base} {b src : Nat} (h : ∀ j, j < 16 → b1.rho (nm src j) = b2.rho (nm b j)) : ∀ u ∈ sameB16 b src, UpdOk b1 b2 u := by
  intro u hu
  obtain ⟨j, hj, rfl⟩ := List.mem_map.1 hu
  exact made.xe_is (h j (List.mem_range.1 hj))
theorem ups_app {b1 b2 : Base} {us vs : List Upd} (h : ∀ u ∈ us, UpdOk b1 b2 u) (k : ∀ u ∈ vs, UpdOk b1 b2 u) : ∀ u ∈ us ++ vs, UpdOk b1 b2 u := fun u hu => (List.mem_append.1 hu).elim (h u) (k u)
theorem loop_heads {P : Program} {b bo : Base} {c : Code} {hd : Nat → St} {s1 : St} {x : X} (hx : x ≠ .normal) {N : Nat} (step : ∀ k, k < N → TurnsS P b b c (hd k) .normal (hd (k + 1))) (last : TurnsS P b bo c (hd N) x s1) :
    ∀ m k, k + m = N → ∀ {r : Ren} {B : Nat} {a : Act} {w : World}, @Rel b (hd k) r B a w → ∀ (f : Frame) (K : List Item) (cs : List Frame),
      ∃ e a' w', Goes bo B (hd k).h r a w x s1 e a' w' ∧ Arrives P (lone (f.at a (.code c :: .inLoop c :: K)) cs w) f K cs e a' w'
  | 0, k, hk, r, B, a, w, hr, f, K, cs => by
    obtain rfl : k = N := by omega
    obtain ⟨e, a1, w1, ho, harr⟩ := last.go _ _ _ _ hr f (.inLoop c :: K) cs
    refine ⟨e, a1, w1, ho, .pass (x := .inLoop c) rfl (fun _ _ => .inl ?_) harr⟩
    intro he
    subst he
    cases x <;> simp [Goes, XR] at ho
    exact hx rfl
  | m + 1, k, hk, r, B, a, w, hr, f, K, cs => by
    obtain ⟨e, a1, w1, ⟨h3, r1, h4, h5, h6⟩, harr⟩ := (step k (by omega)).go _ _ _ _ hr f (.inLoop c :: K) cs
    cases e <;> simp only [XR] at h3
    obtain ⟨e2, a2, w2, ⟨k3, r2, k4, k5, k6⟩, harr2⟩ := loop_heads hx step last m (k + 1) (by omega) h4 f K cs
    exact ⟨e2, a2, w2, ⟨k3, r2, k4, Adv.trans' (Parts.ok hr).dom (Parts.ok h4).dom h5 k5, k6.trans h6⟩, .of_steps (Steps.trans harr (.one step_inLoop)) harr2⟩
theorem heads_ok {P : Program} {bo b : Base} {c : Code} {d : Bd} {us : List Upd} {hd : Nat → St} {s1 : St} {x : X} (hx : x ≠ .normal) {N : Nat} (ag : Agree bo b d) (hu : ∀ u ∈ us, UpdOk bo b u)
    (step : ∀ k, k < N → TurnsS P b b c (hd k) .normal (hd (k + 1))) (last : TurnsS P b bo c (hd N) x s1) (tag : Nat) (K : Know) (ok : KnowOk K bo.rho bo.sig) : @LoopOk (bo.withK K ok) P (rowL tag d (@thU K us) (hd 0) x s1) c := by
  intro fl B s s' y r a w hr hl
  unfold rowL at hl
  cases hc : (Nat.beq c.tag tag && Nat.beq fl 0 && Nat.beq s.h.next (hd 0).h.next && fitSt d (@thU K us) (hd 0) s) <;> rw [hc] at hl <;> simp only [cond_true, cond_false] at hl
  · cases hl
  cases hl
  simp only [Bool.and_eq_true] at hc
  obtain ⟨⟨⟨_, hf⟩, hnx⟩, hfit⟩ := hc
  obtain rfl := Nat.eq_of_beq_eq_true hf
  have hnx := Nat.eq_of_beq_eq_true hnx
  obtain ⟨k1, k2⟩ := fitSt_ok (ag.withK ok) (@thU_ok (bo.withK K ok) b us hu) hfit hr
  have hadv := k2 (Parts.ok hr).n hnx (@Adv.refl (bo.withK K ok) 0 s.h r B w (@Rel.i (bo.withK K ok) _ _ _ _ _ hr)) (fun l _ h => absurd h (Nat.not_lt_zero l))
  intro f K' cs
  obtain ⟨e, a', w', ⟨g1, r', g2, g3, g4⟩, harr⟩ := loop_heads hx step last N 0 (by omega) k1 f K' cs
  exact ⟨e, a', w', ⟨g1, r', Rel.withK bo ok g2, Adv.trans' (Parts.ok hr).dom (Parts.ok k1).dom hadv g3, g4⟩, .of_steps (.one step_loop) harr⟩
end Go.Proofs.YthdcahkedlijpaaGreat.Am
namespace Go.Proofs.YthdcahkedlijpaaGreat.twos
open Go.RowKit Go.Proofs.YthdcahkedlijpaaGreat.Am
set_option maxRecDepth 100000
set_option linter.unusedVariables false
set_option linter.unusedSectionVars false
noncomputable def f : FuncId := 42
noncomputable def F : Func := Tryz.f42
noncomputable def fO : FuncId := 91
noncomputable def FO : Func := Tryz.f91
noncomputable def codeO : Code := loopAt F 0
noncomputable def codeI : Code := loopAt F 1
noncomputable def codeT : Code := loopAt F 2
noncomputable def codeA : Code := loopAt FO 0
noncomputable def on : S := .fn 62 [(2, 0), (3, 0)]
def hpT (a p s i : Nat) : Hp := [(4, ⟨cells16 s, true⟩), (3, ⟨cells16 p, true⟩), (2, ⟨cells16 a, true⟩), (1, ⟨bits16 i, true⟩), (0, ⟨fnCells, true⟩)]
noncomputable def keep : List (Nat × S) := [(1, .ptr 0 0), (2, .ptr 1 0), (4, .ptr 2 0), (5, .ptr 3 0), (6, .ptr 4 0)]
noncomputable def keepO : List (Nat × S) := keep ++ [(7, on), (16, .rv 1), (17, .xi .i64 3)]
noncomputable def keepI : List (Nat × S) := keepO ++ [(18, .xi .i64 4), (9, .ptr 5 0)]
noncomputable def hpB (a p s i : Nat) : Hp := (5, ⟨blkCells, true⟩) :: hpT a p s i
noncomputable def hdO : St := ⟨frOf F.ntmps (keepO ++ [(18, .xi .i64 4)]), ⟨hpT 0 1 2 3, 5⟩⟩
noncomputable def hdI : St := ⟨frOf F.ntmps (keepI ++ [(23, .rv 3), (24, .xi .i64 7), (25, .xi .i64 21)]), ⟨hpB 0 1 2 3, 6⟩⟩
noncomputable def sNI : St := ⟨frOf F.ntmps keepI, ⟨hpB 4 5 6 7, 6⟩⟩
noncomputable def sNO : St := ⟨frOf F.ntmps keep, ⟨hpT 0 1 2 3, 5⟩⟩
def placeE : List E := [isE 0 3, .and (.or (isE 0 2) (isE 0 4)) (.not (isE 20 1)), isE 0 1, .and (isE 0 1) (.or (isE 4 4) (isE 4 5)), ands [isE 0 1, .not (.or (isE 4 4) (isE 4 5)), .not (isE 7 1)], ands [isE 0 1, .not (.or (isE 4 1) (.or (isE 4 4) (isE 4 5))), .not (isE 12 1)]]
def stateOf : List Bool → Nat
  | [f, sa, p, rp, ra, rb] => bif f then 1 else bif sa then 2 else bif p then (bif rp then 4 else bif ra then (bif rb then 6 else 5) else bif rb then 7 else 3) else 0
  | _ => 0
def rowOf (s : Nat) : Nat := bif Nat.beq s 0 then 0 else 3 + s
def passE : E := ands [isE 0 1, isE 4 1, isE 7 3, isE 10 0, isE 11 0]
def twoE : E := ands [isE 0 1, isE 4 4, isE 6 3]
def at24 (e : E) : E := e.ren (24 + ·)
def setN : E := ands [at24 twoE, isE 26 0, isE 27 0, .not (isE 75 1)]
def trI : List Cnt := [⟨0, 4, 49, 285⟩, ⟨0, 5, 46, 287⟩, ⟨0, 6, 25, 289⟩, ⟨6, 7, 41, 291⟩, ⟨6, 8, 33, 293⟩, ⟨8, 9, 38, 295⟩, ⟨6, 10, 38, 297⟩, ⟨1, 11, 33, 299⟩, ⟨2, 12, 25, 301⟩]
def usI : List Upd := isU (.xi .i64 21) (.xi .i64 22) :: (pickU16 0 (placeE.map at24) (fun bs => rowOf (stateOf bs)) ++ (pickU16 1 [at24 passE] (fun bs => bif bs.headD false then 11 else 1) ++ (pickU16 2 [setN] (fun bs => bif bs.headD false then 12 else 2) ++ bitU16 3 3 25 (at24 twoE))))
def opK' (k : Nat) (t : HT) : HT := .by k 1 t (.by k 2 t t)
def useT : HT := .by 31 1 .leaf (.by 31 2 .leaf (.by 31 3 .leaf (.by 31 4 (.both 34 1 (.both 35 1 .leaf)) .leaf)))
def refT : HT := .by 30 3 .leaf (.by 30 4 (.both 26 1 (.both 27 1 (.both 75 1 .leaf))) .leaf)
def asT : HT := .on 28 1 .leaf (.on 28 2 useT (.on 28 3 (opK' 31 (opK' 36 .leaf)) (.on 28 4 (opK' 31 (opK' 36 .leaf)) (.on 28 5 refT (.on 28 6 .leaf .leaf)))))
def stT : HT := .on 24 1 .leaf (.on 24 2 asT (.on 24 3 (opK' 44 .leaf) (.on 24 4 .leaf (.on 24 5 (opK' 44 .leaf) .leaf))))
noncomputable def near16 (L : Lf) (i : Nat) : Lf := (L.lo i 0).hi i 15
noncomputable def LI (L : Lf) : Lf := near16 (near16 (near16 (near16 (near16 (near16 L 49) 25) 33) 38) 41) 46
noncomputable def L1 : Lf := LI (((Lf.of (fnIv ++ [])).pin 6 1).pin 23 1)
noncomputable def L3 : Lf := ((Lf.of (fnIv ++ [])).pin 6 1).pin 23 0
noncomputable def tbI : Tabs := tabF.app (tabB.app tabS)
theorem stepI : autoB (turnT (rigP libN tbI noLoops) f (trFx trI) [(okSN, true)] usI ⟨21, 0, 5⟩ codeI hdI .normal hdI) stT L1 = true := by kernel_rfl
theorem stopI : autoB (turnT (rigP libN (tabF.app tabB) noLoops) f fnFx [] (sameU16 4 0 ++ (sameU16 5 1 ++ (sameU16 6 2 ++ sameB16 7 3))) ⟨21, 0, 5⟩ codeI hdI (.exit 2) sNI) .leaf L3 = true := by kernel_rfl
end Go.Proofs.YthdcahkedlijpaaGreat.twos
namespace Go.Proofs.YthdcahkedlijpaaGreat.twos
open Go.RowKit Go.Proofs.YthdcahkedlijpaaGreat.Am
set_option maxRecDepth 100000
set_option linter.unusedVariables false
set_option linter.unusedSectionVars false
def hpA (a p s i : Nat) : Hp := [(4, ⟨cells16 s, true⟩), (3, ⟨cells16 p, true⟩), (2, ⟨cells16 a, true⟩), (1, ⟨bits16 i, true⟩), (0, ⟨fnCells, true⟩)]
noncomputable def hdA : St := ⟨frOf FO.ntmps [(1, .bool true), (2, on), (8, .rv 4), (9, .xi .i64 17), (10, .xi .i64 50)], ⟨[(3, ⟨cells16 1, true⟩), (2, ⟨cells16 0, true⟩), (4, ⟨cells16 4, true⟩), (1, ⟨bits16 5, true⟩), (0, ⟨fnCells, true⟩)], 8⟩⟩
noncomputable def sNA : St := ⟨frOf FO.ntmps [], ⟨hpT 10 11 6 7, 8⟩⟩
def trA : List Cnt := [⟨0, 2, 55, 173⟩, ⟨1, 3, 55, 175⟩]
def placedN : E := .not (isE 53 1)
def passN : E := ands [isE 53 3, isE 56 0, isE 57 0]
def usA : List Upd := isU (.xi .i64 50) (.xi .i64 51) :: (pickU16 0 [placedN] (fun bs => bif bs.headD false then 2 else 0) ++ (pickU16 1 [passN] (fun bs => bif bs.headD false then 3 else 1) ++ (sameU16 4 4 ++ sameB16 5 5)))
def opT' : HT := .by 53 1 .leaf (.by 53 2 .leaf (.by 53 3 .leaf (.by 53 4 (.both 56 1 (.both 57 1 .leaf)) .leaf)))
noncomputable def LA : Lf := near16 (((Lf.of (fnIv ++ [])).pin 6 1).pin 52 1) 55
noncomputable def LA0 : Lf := ((Lf.of (fnIv ++ [])).pin 6 1).pin 52 0
theorem stepA : autoB (turnT (rigP libN (tabF.app (tabB.app tabA)) noLoops) fO (trFx trA) [] usA ⟨21, 0, 5⟩ codeA hdA .normal hdA) opT' LA = true := by kernel_rfl
theorem stopA : autoB (turnT (rigP libN (tabF.app tabB) noLoops) fO fnFx [] (sameU16 10 0 ++ (sameU16 11 1 ++ (sameU16 6 4 ++ sameB16 7 5))) ⟨21, 0, 5⟩ codeA hdA (.exit 0) sNA) .leaf LA0 = true := by kernel_rfl
def trO : List Cnt := [⟨4, 8, 11, 269⟩, ⟨4, 9, 18, 271⟩]
def us0 : List Upd := isU (.xi .i64 21) (.int .i64 0) :: (sameU16 0 0 ++ (sameU16 1 1 ++ (sameU16 2 2 ++ sameB16 3 3)))
def us1 : List Upd := isU (.xi .i64 50) (.int .i64 0) :: (sameU16 0 9 ++ (sameU16 1 5 ++ (sameU16 4 6 ++ sameB16 5 7)))
noncomputable def rowI (K : Know) : Loops := rowL 8 ⟨21, 0, 5⟩ (@thU K us0) hdI (.exit 2) sNI
noncomputable def rowA (K : Know) : Loops := rowL 2 ⟨21, 0, 5⟩ (@thU K us1) hdA (.exit 0) sNA
noncomputable def rowsO (K : Know) : FuncId → Loops := rowsL [(f, rowI K), (fO, rowA K)]
def brN : E := .and (isE 8 2) (.not (isE 9 1))
def caN : E := isE 8 4
def usO : List Upd := isU (.xi .i64 4) (.xi .i64 5) :: (pickU16 0 [brN, caN] (fun bs => bif bs.headD false then 8 else bif (bs.drop 1).headD false then 10 else 4) ++ (pickU16 1 [caN] (fun bs => bif bs.headD false then 11 else 5) ++ (sameU16 2 6 ++ sameB16 3 7)))
def outT : HT := .on 8 2 .leaf (.on 8 3 (.by 9 1 .leaf (.by 9 2 .leaf .leaf)) (.on 8 4 .leaf (.on 8 5 .leaf .leaf)))
noncomputable def LO : Lf := near16 (near16 ((Lf.of (fnIv ++ [])).pin 6 1) 11) 18
noncomputable def LO0 : Lf := (Lf.of (fnIv ++ [])).pin 6 0
theorem stepO : autoB (turnT (rigP libN (tabF.app tabB) rowsO) f (trFx trO) [] usO ⟨4, 0, 3⟩ codeO hdO .normal hdO) outT LO = true := by kernel_rfl
theorem stopO : autoB (turnT (rigP libN tabF noLoops) f fnFx [] (sameU16 0 0 ++ (sameU16 1 1 ++ (sameU16 2 2 ++ sameB16 3 3))) ⟨4, 0, 3⟩ codeO hdO (.exit 0) sNO) .leaf LO0 = true := by kernel_rfl
noncomputable def frT : Fr := upd sNO.fr 75 (V.g (bits16 3))
noncomputable def hdT (t : Nat) : St := ⟨upd frT 76 (V.s (.int .i64 t)), ⟨hpT 0 1 2 3, 5⟩⟩
noncomputable def sNT : St := ⟨frT, ⟨hpT 0 1 2 3, 5⟩⟩
noncomputable def sRT : St := ⟨upd frT 3 (V.s (.bool false)), ⟨hpT 0 1 2 3, 5⟩⟩
def goodE (t : Nat) : E := imp (isE (nm 3 t) 1) (ands [.lt 0 t, isE (nm 0 t) 2, isE (nm 1 t) 1, isE (nm 2 t) 1])
def goodT (t : Nat) : HT := .by (nm 3 t) 1 .leaf (.by 0 t (.by (nm 0 t) 2 .leaf (.by (nm 0 t) 3 (.by (nm 1 t) 1 .leaf (.by (nm 1 t) 2 (.by (nm 2 t) 1 .leaf (.by (nm 2 t) 2 .leaf .leaf)) .leaf)) .leaf)) .leaf)
def iv64 : Int × Int := (-9223372036854775808, 9223372036854775807)
noncomputable def LT : Lf := Lf.of (fnIv ++ (List.replicate 48 iv64 ++ List.replicate 16 ivB))
noncomputable def goodX (t : Nat) : Bool := autoB (turnT (rigP libN tabF noLoops) f fnFx [(goodE t, true)] [] ⟨141, 0, 3⟩ codeT (hdT t) .normal (hdT (t + 1))) (goodT t) LT
noncomputable def badX (t : Nat) : Bool := autoB (turnT (rigP libN tabF noLoops) f fnFx [(goodE t, false)] [] ⟨141, 0, 3⟩ codeT (hdT t) .ret sRT) (goodT t) LT
theorem stepT : ((List.range 16).all goodX) = true := by kernel_rfl
theorem badT : ((List.range 16).all badX) = true := by kernel_rfl
theorem stopT : autoB (turnT (rigP libN tabF noLoops) f fnFx [] [] ⟨141, 0, 3⟩ codeT (hdT 16) (.exit 4) sNT) .leaf LT = true := by kernel_rfl
noncomputable def rowF (K : Know) : Loops := rowL 5 ⟨4, 0, 3⟩ (@thU K (isU (.xi .i64 4) (.int .i64 0) :: (zeroU16 0 ++ (zeroU16 1 ++ (zeroU16 2 ++ falseU16 3))))) hdO (.exit 0) sNO
noncomputable def rowT (x : X) (s1 : St) (K : Know) : Loops := rowL 19 ⟨141, 0, 3⟩ (@thU K []) (hdT 0) x s1
noncomputable def rowsF (x : X) (s1 : St) (K : Know) : FuncId → Loops := rowsL [(f, rowF K), (f, rowT x s1 K)]
def ansV (r : Bool) : V := .t [.g (bits16 3), .s (.bool r)]
theorem goodF : autoB (callT (rigP libN tabF (rowsF (.exit 4) sNT)) f fnFx [] [] (fun _ => ansV true) [.g fnCells]) .leaf LT = true := by kernel_rfl
theorem badF : autoB (callT (rigP libN tabF (rowsF .ret sRT)) f fnFx [] [] (fun _ => ansV false) [.g fnCells]) .leaf LT = true := by kernel_rfl
theorem tagO : tagsOk (F.body.getD .skip) 0 5 = true := by kernel_rfl
theorem tagI : tagsOk codeO 0 8 = true := by kernel_rfl
theorem tagI2 : tagsOk (F.body.getD .skip) 1 8 = true := by kernel_rfl
theorem tagT : tagsOk (F.body.getD .skip) 2 19 = true := by kernel_rfl
theorem tagA : tagsOk (FO.body.getD .skip) 0 2 = true := by kernel_rfl
end Go.Proofs.YthdcahkedlijpaaGreat.twos
namespace Go.Proofs.YthdcahkedlijpaaGreat.Am
open Go.RowKit
set_option maxRecDepth 100000
set_option linter.unusedVariables false
set_option linter.unusedSectionVars false
def acc {α : Type} (f : α → Int) : List α → Int
  | [] => 0
  | x :: r => f x + acc f r
theorem acc_app {α : Type} (f : α → Int) : ∀ a b : List α, acc f (a ++ b) = acc f a + acc f b
  | [], b => by simp [acc]
  | x :: a, b => by rw [List.cons_append, acc, acc, acc_app f a b]; omega
theorem acc_take {α : Type} (f : α → Int) (l : List α) (d : α) {k : Nat} (hk : k < l.length) : acc f (l.take (k + 1)) = acc f (l.take k) + f (l.getD k d) := by
  rw [List.take_succ_eq_append_getElem hk, acc_app, List.getD_eq_getElem?_getD, List.getElem?_eq_getElem hk]
  simp [acc]
theorem acc_le {α : Type} (f : α → Int) (c : Nat) : ∀ l : List α, (∀ x ∈ l, 0 ≤ f x ∧ f x ≤ c) → 0 ≤ acc f l ∧ acc f l ≤ ((c * l.length : Nat) : Int)
  | [], _ => by simp [acc]
  | x :: r, h => by
    obtain ⟨h1, h2⟩ := h x (by simp)
    obtain ⟨h3, h4⟩ := acc_le f c r fun y hy => h y (by simp [hy])
    rw [acc, List.length_cons, Nat.mul_succ]
    omega
theorem b2i_le (b : Bool) : 0 ≤ b2i b ∧ b2i b ≤ 1 := by cases b <;> decide
def cnt (ls : List Int) (j : Nat) : Int := acc (fun l => b2i (decide (l = (j : Int)))) ls
theorem bump_b {F : Nat → Int} {l : Int} {M : Int} (h : ∀ j, 0 ≤ F j ∧ F j ≤ M) : ∀ j, 0 ≤ bump F l j ∧ bump F l j ≤ M + 1 := fun j => by
  have := h j
  have := b2i_le (decide (l = (j : Int)))
  unfold bump
  omega
theorem cnt_ok {D : FnD} {q : At} {fs : List (Nat → Int)} {tail : List Int} {t : Cnt} {n N : Nat} {F : Nat → Int} (hn : fs.length = N) (h1 : fs[t.src]? = some F) (h2 : fs[t.dst]? = some (bump F (xsAt (fnXs D q (rows16 fs ++ tail)) t.l))) (hm : t.m = 77 + (16 * N + n))
    (e0 : xsAt tail n = F (xsAt (fnXs D q (rows16 fs ++ tail)) t.l).toNat) (e1 : xsAt tail (n + 1) = F (xsAt (fnXs D q (rows16 fs ++ tail)) t.l).toNat + 1) {M : Int} (hb : ∀ j, 0 ≤ F j ∧ F j ≤ M) (hM : M ≤ 1000000) : CntOk (xsAt (fnXs D q (rows16 fs ++ tail))) t := by
  have m0 : xsAt (fnXs D q (rows16 fs ++ tail)) t.m = F (xsAt (fnXs D q (rows16 fs ++ tail)) t.l).toNat := by rw [hm, fn_tail hn, e0]
  have m1 : xsAt (fnXs D q (rows16 fs ++ tail)) (t.m + 1) = F (xsAt (fnXs D q (rows16 fs ++ tail)) t.l).toNat + 1 := by
    rw [hm, show 77 + (16 * N + n) + 1 = 77 + (16 * N + (n + 1)) by omega, fn_tail hn, e1]
  have hb := hb (xsAt (fnXs D q (rows16 fs ++ tail)) t.l).toNat
  exact ⟨⟨F, fun j hj => fn_row h1 hj, fun j hj => fn_row h2 hj, m0, by rw [m1, m0]⟩, by rw [m1]; omega, by rw [m1]; omega⟩
noncomputable def noT (giv : List (E × Bool)) (L : Lf) : Bool := @skipB (L.knowX ⟨[], XTab.nought⟩) giv
theorem cannot {giv : List (E × Bool)} {t : HT} {L0 : Lf} {rho : Nat → Int} (h : autoB (noT giv) t L0 = true) (h0 : L0.Holds rho (fun _ => [])) (hg : ∀ p ∈ giv, p.1.num rho = p.2) : False := by
  obtain ⟨L, hL, ht⟩ := autoB_ok h h0
  have ok : KnowOk (L.knowX ⟨[], XTab.nought⟩) rho (fun _ => []) := Lf.okX hL ⟨fun _ _ _ h => (by cases h), XTabOk.nought _⟩
  let b : Base := Base.known (L.knowX ⟨[], XTab.nought⟩) ok 0 default
  have := @skipB_no b giv hg
  unfold noT at ht
  rw [show @skipB (L.knowX ⟨[], XTab.nought⟩) giv = false from this] at ht
  cases ht
theorem kd_num {k : Kd} {v : Value} (h : k.ok v) (hk : k ≠ .s) : -9223372036854775808 ≤ codeI v ∧ codeI v ≤ 18446744073709551615 := by
  cases k with
  | s => exact absurd rfl hk
  | b => obtain ⟨b, rfl⟩ := h; cases b <;> decide
  | i k =>
    obtain ⟨n, rfl, h1, h2⟩ := h
    have : -9223372036854775808 ≤ k.min ∧ k.max ≤ 18446744073709551615 := by cases k <;> decide
    show -9223372036854775808 ≤ n ∧ n ≤ _
    omega
def ivU (n : Nat) : List (Int × Int) := List.replicate n (-9223372036854775808, 18446744073709551615)
theorem ivU_ok {n : Nat} {ks : List Kd} {us : List Value} (h : All2 Kd.ok ks us) (hs : (ks.all fun k => match k with | .s => false | _ => true) = true) : (Lf.of (ivU n)).Holds (cellI us) (fun _ => []) :=
  Lf.of_ok fun i p hp => by
    have hi := (List.getElem?_eq_some_iff.1 hp).1
    rw [ivU, List.length_replicate] at hi
    unfold ivU at hp
    rw [List.getElem?_replicate, if_pos hi] at hp
    cases hp
    cases hu : us[i]? with
    | none => unfold cellI; rw [hu]; exact ⟨by decide, by decide⟩
    | some u =>
      have hl := h.len
      have hlt := (List.getElem?_eq_some_iff.1 hu).1
      obtain ⟨u', hu', ok⟩ := All2.nth h (n := i) (x := ks[i]'(by omega)) (by rw [nth_eq]; exact List.getElem?_eq_getElem _)
      rw [hu] at hu'
      cases hu'
      unfold cellI
      rw [hu]
      refine kd_num ok fun e => ?_
      have := List.all_eq_true.1 hs (ks[i]'(by omega)) (List.getElem_mem _)
      rw [e] at this
      cases this
noncomputable def inRun (e : E) (n c : Nat) : Bool := autoB (noT [(e, true)]) .leaf ((Lf.of (ivU n)).lo c 16) && autoB (noT [(e, true)]) .leaf ((Lf.of (ivU n)).hi c (-1))
theorem in_range {e : E} {n c : Nat} (hr : inRun e n c = true) {ks : List Kd} {us : List Value} (h : All2 Kd.ok ks us) (hs : (ks.all fun k => match k with | .s => false | _ => true) = true) (hv : e.num (cellI us) = true) : 0 ≤ cellI us c ∧ cellI us c ≤ 15 := by
  unfold inRun at hr
  rw [Bool.and_eq_true] at hr
  have hg : ∀ p ∈ [(e, true)], p.1.num (cellI us) = p.2 := fun p hp => by obtain rfl := List.mem_singleton.1 hp; exact hv
  constructor
  · apply Decidable.byContradiction
    intro hc
    exact cannot hr.2 ((ivU_ok h hs).hi (by omega)) hg
  · apply Decidable.byContradiction
    intro hc
    exact cannot hr.1 ((ivU_ok h hs).lo (by omega)) hg
theorem st_in : ([25, 1, 9, 14, 17, 22].all (inRun okStE 26)) = true := by kernel_rfl
theorem st_range {st : List Value} (h : All2 Kd.ok kS26 st) (hv : okStE.val st = true) {c : Nat} (hc : c ∈ [25, 1, 9, 14, 17, 22]) : 0 ≤ cellI st c ∧ cellI st c ≤ 15 :=
  in_range (List.all_eq_true.1 st_in c hc) h rfl ((E.val_num _ _).symm.trans hv)
theorem op_in : inRun (okOpE 0) 5 2 = true := by kernel_rfl
theorem op_range {op : List Value} (h : All2 Kd.ok opK op) (hv : (okOpE 0).val op = true) : 0 ≤ cellI op 2 ∧ cellI op 2 ≤ 15 := in_range op_in h rfl ((E.val_num _ _).symm.trans hv)
def iffE (a b : E) : E := .or (.and a b) (.and (.not a) (.not b))
def jmG : List (E × Bool) := [(okJB, true), (iffE (isE 14 1) (okOpE 1), true), (iffE (isE 15 1) (okPlE 10), true)]
def jmT : HT := .both 14 1 (.both 14 2 (.both 15 1 (.both 15 2 .leaf)))
noncomputable def jmRun (L : Lf) : Bool := autoB (noT jmG) jmT L
theorem jm_1 : (jmRun ((Lf.of (ivU 16)).lo 3 16) && (jmRun ((Lf.of (ivU 16)).hi 3 (-1)) && (jmRun ((Lf.of (ivU 16)).lo 10 16) && jmRun ((Lf.of (ivU 16)).hi 10 (-1))))) = true := by kernel_rfl
theorem jm_2 : jmRun (((Lf.of (ivU 16)).pin 13 0).lo 9 1) = true := by kernel_rfl
theorem iffE_num {a b : E} {rho : Nat → Int} (h : a.num rho = b.num rho) : (iffE a b).num rho = true := by
  show ((a.num rho && b.num rho) || (!a.num rho && !b.num rho)) = true
  rw [h]
  cases b.num rho <;> rfl
theorem jm_facts {w : World} {v : Value} {pre : List Value} {sv : Value} {post : List Value} {els : List (List Value)} (hj : JumpIs w v pre sv post els) (h : okJ pre els post = true) :
    (0 ≤ cellI pre 3 ∧ cellI pre 3 ≤ 15) ∧ (0 ≤ cellI post 0 ∧ cellI post 0 ≤ 15) ∧ ((els.all fun el => (okOpE 0).val el) = true ∨ els.length = 0) := by
  have hl := len_flat hj
  have lp := len_pre hj
  let us : List Value := flatJ pre els post ++ (bitsJ pre els post).map (Value.int .i64)
  have hk : All2 Kd.ok (kJ ++ [.i .i64, .i .i64, .i .i64]) us := (ok_flat hj).app ⟨⟨_, rfl, by have := b2i_le (els.all fun el => (okOpE 0).val el); show (-9223372036854775808 : Int) ≤ _; omega, by have := b2i_le (els.all fun el => (okOpE 0).val el); show _ ≤ (9223372036854775807 : Int); omega⟩, ⟨_, rfl, by have := b2i_le ((okOpE 1).val (flatJ pre els post)); show (-9223372036854775808 : Int) ≤ _; omega, by have := b2i_le ((okOpE 1).val (flatJ pre els post)); show _ ≤ (9223372036854775807 : Int); omega⟩, ⟨_, rfl, by have := b2i_le ((okPlE 10).val (flatJ pre els post)); show (-9223372036854775808 : Int) ≤ _; omega, by have := b2i_le ((okPlE 10).val (flatJ pre els post)); show _ ≤ (9223372036854775807 : Int); omega⟩, trivial⟩
  have h0 : (Lf.of (ivU 16)).Holds (cellI us) (fun _ => []) := ivU_ok hk rfl
  have ea : ∀ i, i < 13 → cellI us i = cellI (flatJ pre els post) i := fun i hi => cellI_lt (by omega)
  have eb : ∀ j m, (bitsJ pre els post)[j]? = some m → cellI us (13 + j) = m := fun j m hm => by
    show cellI (flatJ pre els post ++ _) _ = _
    rw [cellI_ge hl]
    unfold cellI
    rw [List.getElem?_map, hm]
    rfl
  have e13 : cellI us 13 = b2i (els.all fun el => (okOpE 0).val el) := eb 0 _ rfl
  have e14 : cellI us 14 = b2i ((okOpE 1).val (flatJ pre els post)) := eb 1 _ rfl
  have e15 : cellI us 15 = b2i ((okPlE 10).val (flatJ pre els post)) := eb 2 _ rfl
  have sm : ∀ e : E, e.bd 13 = true → e.num (cellI us) = e.val (flatJ pre els post) := fun e he => by
    rw [E.val_num]
    exact (E.num_ren (f := fun i => i) he ea ▸ by
      congr 1
      clear he
      induction e with
      | lt i c => rfl
      | zero l => simp [E.ren]
      | and a b ha hb => rw [E.ren, ← ha, ← hb]
      | or a b ha hb => rw [E.ren, ← ha, ← hb]
      | not a ha => rw [E.ren, ← ha])
  have one : ∀ i c, (isE i c).num (cellI us) = decide (cellI us i = c) := fun i c => by show (decide _ && true) = _; rw [Bool.and_true]
  have hg : ∀ p ∈ jmG, p.1.num (cellI us) = p.2 := fun p hp => by
    simp only [jmG, List.mem_cons, List.not_mem_nil, or_false] at hp
    rcases hp with rfl | rfl | rfl
    · unfold okJ at h
      rw [E.val_num] at h
      exact h
    · refine iffE_num ?_
      rw [one, e14, made.dec_b2i, sm _ rfl]
    · refine iffE_num ?_
      rw [one, e15, made.dec_b2i, sm _ rfl]
  have c3 : cellI us 3 = cellI pre 3 := (ea 3 (by decide)).trans (by unfold flatJ; exact cellI_lt (by omega))
  have c10 : cellI us 10 = cellI post 0 := (ea 10 (by decide)).trans (by
    unfold flatJ
    rw [show 10 = 9 + 1 from rfl, cellI_ge lp]
    rfl)
  have c9 : cellI us 9 = els.length := (ea 9 (by decide)).trans (cell_len hj)
  have r1 := jm_1
  simp only [Bool.and_eq_true] at r1
  obtain ⟨r1, r2, r3, r4⟩ := r1
  refine ⟨⟨?_, ?_⟩, ⟨?_, ?_⟩, ?_⟩
  · apply Decidable.byContradiction; intro hc; exact cannot r2 (h0.hi (by omega)) hg
  · apply Decidable.byContradiction; intro hc; exact cannot r1 (h0.lo (by omega)) hg
  · apply Decidable.byContradiction; intro hc; exact cannot r4 (h0.hi (by omega)) hg
  · apply Decidable.byContradiction; intro hc; exact cannot r3 (h0.lo (by omega)) hg
  · cases hb : (els.all fun el => (okOpE 0).val el) with
    | true => exact .inl rfl
    | false =>
      refine .inr (Decidable.byContradiction fun hc => ?_)
      rw [hb] at e13
      exact cannot jm_2 ((h0.pin (i := 13) (c := 0) e13).lo (i := 9) (c := 1) (by rw [c9]; omega)) hg
end Go.Proofs.YthdcahkedlijpaaGreat.Am
