/- fnshape.made answers by madeF. Counters: rows of sixteen numbers, of which one goes up where a local says; loops with a head for each round. (No program in sight but for the last words.) -/
import Derived.Test.YtglmonlofejcgaaDoorFn5
namespace Go.Proofs.YtglmonlofejcgaaDoor.Am
open Go.RowKit
set_option maxRecDepth 100000
theorem okJ_len {pre post : List Value} {els : List (List Value)} (hp : pre.length = 9) (h : okJ pre els post = true) : els.length ≤ 8 := by
 have e9 : ∀ l, cellI (flatJ pre els post ++ l) 9 = (els.length : Int) := fun l => by
  unfold cellI flatJ
  rw [List.append_assoc, List.getElem?_append_right (by omega), hp]
  rfl
 unfold okJ at h
 rw [E.val_num] at h
 generalize hl : (bitsJ pre els post).map (Value.int .i64) = l at h
 have e9 := e9 l
 generalize hv : flatJ pre els post ++ l = vs at h e9
 simp only [okJB, E.num, E.ands, zs, inRE, Bool.or_eq_true, Bool.and_eq_true, decide_eq_true_eq, List.all_cons, List.all_nil, List.all_map] at h
 rcases h with h | h | h | h
 ·have := List.all_eq_true.1 h.2.2.2 1 (by decide)
  simp only [Function.comp, decide_eq_true_eq] at this
  rw [show (8 + 1 : Nat) = 9 from rfl] at this
  omega
 ·have := List.all_eq_true.1 h.2.2.2.2.2 0 (by decide)
  simp only [Function.comp, decide_eq_true_eq] at this
  rw [show (9 + 0 : Nat) = 9 from rfl] at this
  omega
 ·have := List.all_eq_true.1 h.2 8 (by decide)
  simp only [Function.comp, decide_eq_true_eq] at this
  rw [show (1 + 8 : Nat) = 9 from rfl] at this
  omega
 ·have := h.2.2.2.2.2.1
  omega
end Go.Proofs.YtglmonlofejcgaaDoor.Am
namespace Go.Proofs.YtglmonlofejcgaaDoor.made
open Go.RowKit Go.Proofs.YtglmonlofejcgaaDoor.Am
set_option maxRecDepth 100000
set_option linter.unusedVariables false
set_option linter.unusedSectionVars false
section
variable {w : World} {v : Value} {D : FnD} (h : FnOk' w v D)
include h
theorem made_ans (hL : D.ls.length ≤ 16) (hB : D.bs.length ≤ 24) (hS : ∀ b ∈ D.bs, b.st.length ≤ 24) : Answers f [v] w (.bool (madeF D)) := by
 have hS' : ∀ b ∈ D.bs, b.st.length ≤ 1000 ∧ (okJF b = true → b.ops.length ≤ 1000) := fun b hb => ⟨by have := hS b hb; omega, fun e => by
  have h1 := (h.blk b hb).prek.len
  have h2 := okJ_len (by rw [← h1]; rfl) e
  omega⟩
 have out := fun r (m : List Int) => outer h r (m := m) (fun _ => trivial) (by omega) hS'
 let a : Bool := D.bs.all (outB D.ls.length D.bs.length)
 let m : Bool → List Int := fun r => [0, b2i (r && a)]
 have lib : ∀ r hb, head.headF D = hb → ∀ K (ok : KnowOk K (fnB w D (atB 0) (m r)).rho (fnB w D (atB 0) (m r)).sig), @Sound ((fnB w D (atB 0) (m r)).withK K ok) Tryd.prog (libH hb K) := fun r hb e =>
  row_fnD h ⟨_, Tryd.func73, by kernel_rfl, by kernel_rfl⟩ (fun b0 r => vmB b0 r hb) (atB 0) (m r) fun w' hw => e ▸ head.head_ans hw (by omega)
 have LMh : ∀ r, LM.Holds (xsAt (fnXs D (atB 0) (m r))) (fun _ => []) := fun r => fn_start h (q := atB 0) (fits_B (by omega)) (iv := [ivB, ivB]) (m1 := [0, b2i (r && a)]) (m2 := []) ⟨⟨by decide, by decide⟩, in_b _, trivial⟩ _
 have good : ∀ r hb, head.headF D = hb → D.bs.all okB = true → RigOk Tryd.prog (rigP (libH hb) tabF fun K => rowsL [(f, rowM r (.exit 0) sNO K)]) (fnB w D (atB 0) (m r)) := fun r hb e hok =>
  rig_ok (lib r hb e) (tabF_ok h _ _) (rows_ok (T := fun K => [(f, rowM r (.exit 0) sNO K)]) fun K ok p hp => by
   obtain rfl := List.mem_singleton.1 hp
   exact ⟨F, Tryd.func45, fun c hc => row_fn tagO ((out r (m r)).1 hok rfl K ok) hc⟩)
 have bad : ∀ r hb, head.headF D = hb → D.bs.all okB = false → RigOk Tryd.prog (rigP (libH hb) tabF fun K => rowsL [(f, rowM r .ret sRO K)]) (fnB w D (atB 0) (m r)) := fun r hb e hok =>
  rig_ok (lib r hb e) (tabF_ok h _ _) (rows_ok (T := fun K => [(f, rowM r .ret sRO K)]) fun K ok p hp => by
   obtain rfl := List.mem_singleton.1 hp
   exact ⟨F, Tryd.func45, fun c hc => row_fn tagO ((out r (m r)).2 hok K ok) hc⟩)
 have ans : ∀ r x, @VV (fnB w D (atB 0) (m r)) x (V.s (.xe [(78, 1)])) = fun u => u = .bool (r && a) := fun r x => by
  funext u
  show (u = .bool (decide (xsAt (fnXs D (atB 0) (m r)) (77 + 1) = 1) || false)) = _
  rw [fn_more, Bool.or_false]
  show (u = .bool (decide (b2i (r && a) = 1))) = _
  rw [dec_b2i]
 cases hok : D.bs.all okB with
 | false =>
  have hm : madeF D = false := by unfold madeF; rw [hok]; simp
  rw [hm]
  cases hb : head.headF D with
  | false => exact fn_call h bad0 (bad false false hb hok) (LMh false) (fnFx_ok D _ _) (fun p hp => by cases hp) (fun r x hx => hx)
  | true =>
   by_cases hn : 0 < D.bs.length
   ·exact fn_call h bad1 (bad true true hb hok) ((LMh true).lo (i := 3) (c := 1) (show (1 : Int) ≤ (D.bs.length : Int) by omega)) (fnFx_ok D _ _) (fun p hp => by cases hp) (fun r x hx => hx)
   ·exact fn_call h bad2 (bad false true hb hok) ((LMh false).hi (i := 3) (c := 0) (show (D.bs.length : Int) ≤ 0 by omega)) (fnFx_ok D _ _) (fun p hp => by cases hp) (fun r x hx => hx)
 | true =>
  have hm : madeF D = (head.headF D && (decide (0 < D.bs.length) && a)) := by unfold madeF; rw [hok, Bool.true_and]
  rw [hm]
  cases hb : head.headF D with
  | false => exact fn_call h good0 (good false false hb hok) (LMh false) (fnFx_ok D _ _) (fun p hp => by cases hp) (fun r x hx => by rw [ans] at hx; exact hx)
  | true =>
   by_cases hn : 0 < D.bs.length
   ·rw [decide_eq_true hn]
    exact fn_call h good1 (good true true hb hok) ((LMh true).lo (i := 3) (c := 1) (show (1 : Int) ≤ (D.bs.length : Int) by omega)) (fnFx_ok D _ _) (fun p hp => by cases hp) (fun r x hx => by rw [ans] at hx; exact hx)
   ·rw [decide_eq_false hn]
    exact fn_call h good2 (good false true hb hok) ((LMh false).hi (i := 3) (c := 0) (show (D.bs.length : Int) ≤ 0 by omega)) (fnFx_ok D _ _) (fun p hp => by cases hp) (fun r x hx => by rw [ans] at hx; exact hx)
end
end Go.Proofs.YtglmonlofejcgaaDoor.made
namespace Go.Proofs.YtglmonlofejcgaaDoor.Am
open Go.RowKit
set_option maxRecDepth 100000
set_option linter.unusedVariables false
set_option linter.unusedSectionVars false
def row16 (f : Nat → Int) : List Int := (List.range 16).map f
def rows16 : List (Nat → Int) → List Int
 | [] => []
 | f :: r => row16 f ++ rows16 r
theorem row16_len (f : Nat → Int) : (row16 f).length = 16 := by simp [row16]
theorem rows16_len : ∀ fs : List (Nat → Int), (rows16 fs).length = 16 * fs.length
 | [] => rfl
 | f :: r => by rw [rows16, List.length_append, row16_len, rows16_len r, List.length_cons]; omega
theorem rows16_at : ∀ (fs : List (Nat → Int)) (tail : List Int) (b j : Nat) (f : Nat → Int), fs[b]? = some f → j < 16 → xsAt (rows16 fs ++ tail) (16 * b + j) = f j
 | [], _, b, j, f, h, _ => by simp at h
 | g :: r, tail, 0, j, f, h, hj => by
  cases h
  rw [Nat.mul_zero, Nat.zero_add, rows16, List.append_assoc]
  unfold xsAt row16
  rw [List.getD_eq_getElem?_getD, List.getElem?_append_left (by simpa using hj), List.getElem?_map, List.getElem?_range hj]
  rfl
 | g :: r, tail, b + 1, j, f, h, hj => by
  rw [rows16, List.append_assoc, show 16 * (b + 1) + j = 16 + (16 * b + j) by omega, xsAt_ge (row16_len g)]
  exact rows16_at r tail b j f (by simpa using h) hj
theorem rows16_tail (fs : List (Nat → Int)) (tail : List Int) (j : Nat) : xsAt (rows16 fs ++ tail) (16 * fs.length + j) = xsAt tail j := xsAt_ge (rows16_len fs)
def nm (b j : Nat) : Nat := 77 + (16 * b + j)
def cells16 (b : Nat) : List S := (List.range 16).map fun j => .xi .i64 (nm b j)
def bits16 (b : Nat) : List S := (List.range 16).map fun j => .xe [(nm b j, 1)]
structure Cnt where
 src : Nat
 dst : Nat
 l : Nat
 m : Nat
def trX (T : List Cnt) : XTab := { fnFx.xt with ld := T.map fun t => (cells16 t.src, t.l, t.m), sr := T.map fun t => (cells16 t.src, t.l, t.m + 1, cells16 t.dst) }
def trFx (T : List Cnt) : Fx := ⟨T.map fun t => (t.m, 1, t.m + 1), trX T⟩
def bump (F : Nat → Int) (l : Int) (j : Nat) : Int := F j + b2i (decide (l = j))
structure CntOk (rho : Nat → Int) (t : Cnt) : Prop where
 ex : ∃ F : Nat → Int, (∀ j, j < 16 → rho (nm t.src j) = F j) ∧ (∀ j, j < 16 → rho (nm t.dst j) = bump F (rho t.l) j) ∧ rho t.m = F (rho t.l).toNat ∧ rho (t.m + 1) = rho t.m + 1
 lo : -9223372036854775808 ≤ rho (t.m + 1)
 hi : rho (t.m + 1) ≤ 9223372036854775807
theorem cells16_at {b j : Nat} {c : S} (h : (cells16 b)[j]? = some c) : j < 16 ∧ c = .xi .i64 (nm b j) := by
 have hj : j < 16 := by have := (List.getElem?_eq_some_iff.1 h).1; simpa [cells16] using this
 unfold cells16 at h
 rw [List.getElem?_map, List.getElem?_range hj] at h
 cases h
 exact ⟨hj, rfl⟩
theorem trFx_ok {T : List Cnt} {rho : Nat → Int} (h0 : FxOk fnFx rho) (h : ∀ t ∈ T, CntOk rho t) : FxOk (trFx T) rho := by
 refine ⟨fun i c k hm => ?_, ⟨h0.xt.lf, h0.xt.sm, fun cs i m hm j c hc hj => ?_, fun cs i m ds hm => ?_, h0.xt.eq⟩⟩
 ·have hm : (i, c, k) ∈ T.map fun t => (t.m, (1 : Int), t.m + 1) := hm
  obtain ⟨t, ht, e⟩ := List.mem_map.1 hm
  cases e
  have k := h t ht
  obtain ⟨F, _, _, _, e⟩ := k.ex
  exact ⟨e.symm, k.lo, k.hi⟩
 ·have hm : (cs, i, m) ∈ T.map fun t => (cells16 t.src, t.l, t.m) := hm
  obtain ⟨t, ht, e⟩ := List.mem_map.1 hm
  cases e
  obtain ⟨F, h1, _, h3, _⟩ := (h t ht).ex
  obtain ⟨hj', rfl⟩ := cells16_at hc
  show some (rho (nm t.src j)) = some (rho t.m)
  rw [h1 j hj', h3, hj, Int.toNat_natCast]
 ·have hm : (cs, i, m, ds) ∈ T.map fun t => (cells16 t.src, t.l, t.m + 1, cells16 t.dst) := hm
  obtain ⟨t, ht, e⟩ := List.mem_map.1 hm
  cases e
  obtain ⟨F, h1, h2, h3, h4⟩ := (h t ht).ex
  refine ⟨by simp [cells16], fun j c d hc hd => ?_⟩
  obtain ⟨hj, rfl⟩ := cells16_at hc
  obtain ⟨_, rfl⟩ := cells16_at hd
  refine ⟨F j, by show some _ = some _; rw [h1 j hj], ?_⟩
  show some (rho (nm t.dst j)) = some _
  rw [h2 j hj]
  unfold bump
  by_cases e : rho t.l = (j : Int)
  ·rw [if_pos e, decide_eq_true e, h4, h3, e, Int.toNat_natCast]
   rfl
  ·rw [if_neg e, decide_eq_false e]
   show some (F j + 0) = _
   rw [Int.add_zero]
theorem fn_row {D : FnD} {q : At} {fs : List (Nat → Int)} {tail : List Int} {b : Nat} {f : Nat → Int} (h : fs[b]? = some f) {j : Nat} (hj : j < 16) : xsAt (fnXs D q (rows16 fs ++ tail)) (nm b j) = f j := by
 show xsAt _ (77 + (16 * b + j)) = _
 rw [fn_more, rows16_at fs tail b j f h hj]
theorem fn_tail {D : FnD} {q : At} {fs : List (Nat → Int)} {tail : List Int} {n : Nat} (hn : fs.length = n) (j : Nat) : xsAt (fnXs D q (rows16 fs ++ tail)) (77 + (16 * n + j)) = xsAt tail j := by
 rw [fn_more, ← hn, rows16_tail]
def pickU (b : Nat) (es : List E) (pick : List Bool → Nat) (j : Nat) : Upd := ⟨.xi .i64 (nm b j), es, fun bs => .xi .i64 (nm (pick bs) j)⟩
def pickU16 (b : Nat) (es : List E) (pick : List Bool → Nat) : List Upd := (List.range 16).map (pickU b es pick)
theorem pickU_ok {b1 b2 : Base} {b : Nat} {es : List E} {pick : List Bool → Nat} (h : ∀ j, j < 16 → b1.rho (nm (pick (es.map (E.num b1.rho))) j) = b2.rho (nm b j)) : ∀ u ∈ pickU16 b es pick, UpdOk b1 b2 u := by
 intro u hu r v hv
 obtain ⟨j, hj, rfl⟩ := List.mem_map.1 hu
 have hv : v = .int .i64 (b1.rho (nm (pick (es.map (E.num b1.rho))) j)) := hv
 show v = .int .i64 (b2.rho (nm b j))
 rw [hv, h j (List.mem_range.1 hj)]
def bitU16 (b src l : Nat) (e : E) : List Upd := (List.range 16).map fun j => ⟨.xe [(nm b j, 1)], [e], fun bs => bif bs.headD false then .xe [(l, (j : Int)), (nm src j, 1)] else .xe [(nm src j, 1)]⟩
theorem bitU16_ok {b1 b2 : Base} {b src l : Nat} {e : E} (h : ∀ j, j < 16 → (b2.rho (nm b j) = 1 ↔ ((e.num b1.rho = true ∧ b1.rho l = (j : Int)) ∨ b1.rho (nm src j) = 1))) : ∀ u ∈ bitU16 b src l e, UpdOk b1 b2 u := by
 intro u hu r v hv
 obtain ⟨j, hj, rfl⟩ := List.mem_map.1 hu
 have hj := List.mem_range.1 hj
 have hv : @VS b1 r (bif e.num b1.rho then .xe [(l, (j : Int)), (nm src j, 1)] else .xe [(nm src j, 1)]) v := hv
 show v = .bool (decide (b2.rho (nm b j) = 1) || false)
 rw [Bool.or_false]
 have hk := h j hj
 by_cases he : e.num b1.rho = true
 ·rw [he, cond_true] at hv
  have hv : v = .bool (decide (b1.rho l = (j : Int)) || (decide (b1.rho (nm src j) = 1) || false)) := hv
  rw [hv, Bool.or_false]
  congr 1
  by_cases h1 : b1.rho l = (j : Int) <;> by_cases h2 : b1.rho (nm src j) = 1 <;> simp [h1, h2, he] at hk ⊢ <;> simp [hk]
 ·rw [Bool.not_eq_true] at he
  rw [he, cond_false] at hv
  have hv : v = .bool (decide (b1.rho (nm src j) = 1) || false) := hv
  rw [hv, Bool.or_false]
  congr 1
  by_cases h2 : b1.rho (nm src j) = 1 <;> simp [h2, he] at hk ⊢ <;> simp [hk]
def zeroU16 (b : Nat) : List Upd := (List.range 16).map fun j => isU (.xi .i64 (nm b j)) (.int .i64 0)
theorem zeroU16_ok {b1 b2 : Base} {b : Nat} (h : ∀ j, j < 16 → b2.rho (nm b j) = 0) : ∀ u ∈ zeroU16 b, UpdOk b1 b2 u := by
 intro u hu r v hv
 obtain ⟨j, hj, rfl⟩ := List.mem_map.1 hu
 have hv : v = .int .i64 0 := hv
 show v = .int .i64 (b2.rho (nm b j))
 rw [hv, h j (List.mem_range.1 hj)]
def falseU16 (b : Nat) : List Upd := (List.range 16).map fun j => isU (.xe [(nm b j, 1)]) (.bool false)
theorem falseU16_ok {b1 b2 : Base} {b : Nat} (h : ∀ j, j < 16 → b2.rho (nm b j) = 0) : ∀ u ∈ falseU16 b, UpdOk b1 b2 u := by
 intro u hu r v hv
 obtain ⟨j, hj, rfl⟩ := List.mem_map.1 hu
 have hv : v = .bool false := hv
 show v = .bool (decide (b2.rho (nm b j) = 1) || false)
 rw [hv, h j (List.mem_range.1 hj)]
 rfl
def sameU16 (b src : Nat) : List Upd := pickU16 b [] fun _ => src
def sameB16 (b src : Nat) : List Upd := (List.range 16).map fun j => isU (.xe [(nm b j, 1)]) (.xe [(nm src j, 1)])
theorem sameB16_ok {b1 b2 : Base} {b src : Nat} (h : ∀ j, j < 16 → b1.rho (nm src j) = b2.rho (nm b j)) : ∀ u ∈ sameB16 b src, UpdOk b1 b2 u := by
 intro u hu
 obtain ⟨j, hj, rfl⟩ := List.mem_map.1 hu
 exact made.xe_is (h j (List.mem_range.1 hj))
theorem ups_app {b1 b2 : Base} {us vs : List Upd} (h : ∀ u ∈ us, UpdOk b1 b2 u) (k : ∀ u ∈ vs, UpdOk b1 b2 u) : ∀ u ∈ us ++ vs, UpdOk b1 b2 u := fun u hu => (List.mem_append.1 hu).elim (h u) (k u)
theorem loop_heads {P : Program} {b bo : Base} {c : Code} {hd : Nat → St} {s1 : St} {x : X} (hx : x ≠ .normal) {N : Nat} (step : ∀ k, k < N → TurnsS P b b c (hd k) .normal (hd (k + 1))) (last : TurnsS P b bo c (hd N) x s1) :
  ∀ m k, k + m = N → ∀ {r : Ren} {B : Nat} {a : Act} {w : World}, @Rel b (hd k) r B a w → ∀ (f : Frame) (K : List Item) (cs : List Frame),
   ∃ e a' w', Goes bo B (hd k).h r a w x s1 e a' w' ∧ Arrives P (lone (f.at a (.code c :: .inLoop c :: K)) cs w) f K cs e a' w'
 | 0, k, hk, r, B, a, w, hr, f, K, cs => by
  obtain rfl : k = N := by omega
  obtain ⟨e, a1, w1, ho, harr⟩ := last.go _ _ _ _ hr f (.inLoop c :: K) cs
  refine ⟨e, a1, w1, ho, .pass (x := .inLoop c) rfl (fun _ _ => .inl ?_) harr⟩
  intro he
  subst he
  cases x <;> simp [Goes, XR] at ho
  exact hx rfl
 | m + 1, k, hk, r, B, a, w, hr, f, K, cs => by
  obtain ⟨e, a1, w1, ⟨h3, r1, h4, h5, h6⟩, harr⟩ := (step k (by omega)).go _ _ _ _ hr f (.inLoop c :: K) cs
  cases e <;> simp only [XR] at h3
  obtain ⟨e2, a2, w2, ⟨k3, r2, k4, k5, k6⟩, harr2⟩ := loop_heads hx step last m (k + 1) (by omega) h4 f K cs
  exact ⟨e2, a2, w2, ⟨k3, r2, k4, Adv.trans' (Parts.ok hr).dom (Parts.ok h4).dom h5 k5, k6.trans h6⟩, .of_steps (Steps.trans harr (.one step_inLoop)) harr2⟩
theorem heads_ok {P : Program} {bo b : Base} {c : Code} {d : Bd} {us : List Upd} {hd : Nat → St} {s1 : St} {x : X} (hx : x ≠ .normal) {N : Nat} (ag : Agree bo b d) (hu : ∀ u ∈ us, UpdOk bo b u)
  (step : ∀ k, k < N → TurnsS P b b c (hd k) .normal (hd (k + 1))) (last : TurnsS P b bo c (hd N) x s1) (tag : Nat) (K : Know) (ok : KnowOk K bo.rho bo.sig) : @LoopOk (bo.withK K ok) P (rowL tag d (@thU K us) (hd 0) x s1) c := by
 intro fl B s s' y r a w hr hl
 unfold rowL at hl
 cases hc : (Nat.beq c.tag tag && Nat.beq fl 0 && Nat.beq s.h.next (hd 0).h.next && fitSt d (@thU K us) (hd 0) s) <;> rw [hc] at hl <;> simp only [cond_true, cond_false] at hl
 ·cases hl
 cases hl
 simp only [Bool.and_eq_true] at hc
 obtain ⟨⟨⟨_, hf⟩, hnx⟩, hfit⟩ := hc
 obtain rfl := Nat.eq_of_beq_eq_true hf
 have hnx := Nat.eq_of_beq_eq_true hnx
 obtain ⟨k1, k2⟩ := fitSt_ok (ag.withK ok) (@thU_ok (bo.withK K ok) b us hu) hfit hr
 have hadv := k2 (Parts.ok hr).n hnx (@Adv.refl (bo.withK K ok) 0 s.h r B w (@Rel.i (bo.withK K ok) _ _ _ _ _ hr)) (fun l _ h => absurd h (Nat.not_lt_zero l))
 intro f K' cs
 obtain ⟨e, a', w', ⟨g1, r', g2, g3, g4⟩, harr⟩ := loop_heads hx step last N 0 (by omega) k1 f K' cs
 exact ⟨e, a', w', ⟨g1, r', Rel.withK bo ok g2, Adv.trans' (Parts.ok hr).dom (Parts.ok k1).dom hadv g3, g4⟩, .of_steps (.one step_loop) harr⟩
end Go.Proofs.YtglmonlofejcgaaDoor.Am
