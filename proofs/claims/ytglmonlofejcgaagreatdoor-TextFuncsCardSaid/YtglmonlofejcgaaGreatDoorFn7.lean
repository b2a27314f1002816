/- fnshape.made answers by madeF. Counters: rows of sixteen numbers, of which one goes up where a local says; loops with a head for each round. (No program in sight but for the last words.) -/
import Derived.Test.YtglmonlofejcgaaGreatDoorFn5
set_option linter.unusedVariables false
set_option linter.unusedSectionVars false
set_option maxRecDepth 100000
namespace Go.Proofs.YtglmonlofejcgaaGreatDoor.Am
open Go.RowKit
theorem Dw {pre post : List Value} {els : List (List Value)} (hp : pre.length = 9) (h : okJ pre els post = true) : els.length <= 8 := by
 have e9 : ∀ l, ah (aW pre els post ++ l) 9 = (els.length : Int) := fun l => by
  unfold ah aW
  rw [List.append_assoc, List.getElem?_append_right (by omega), hp]
  rfl
 unfold okJ at h
 rw [E.jh] at h
 generalize hl : (lX pre els post).map (Value.int .i64) = l at h
 have e9 := e9 l
 generalize hv : aW pre els post ++ l = vs at h e9
 simp only [a3b, E.num, E.ands, zs, F6, Bool.or_eq_true, Bool.and_eq_true, decide_eq_true_eq, List.all_cons, List.all_nil, List.all_map] at h
 rcases h with h | h | h | h
 ·have := List.all_eq_true.1 h.2.2.2 1 (by decide)
  simp only [Function.comp, decide_eq_true_eq] at this
  rw [show (8 + 1 : Nat) = 9 from rfl] at this
  omega
 ·have := List.all_eq_true.1 h.2.2.2.2.2 0 (by decide)
  simp only [Function.comp, decide_eq_true_eq] at this
  rw [show (9 + 0 : Nat) = 9 from rfl] at this
  omega
 ·have := List.all_eq_true.1 h.2 8 (by decide)
  simp only [Function.comp, decide_eq_true_eq] at this
  rw [show (1 + 8 : Nat) = 9 from rfl] at this
  omega
 ·have := h.2.2.2.2.2.1
  omega
end Go.Proofs.YtglmonlofejcgaaGreatDoor.Am
namespace Go.Proofs.YtglmonlofejcgaaGreatDoor.made
open Go.RowKit Am
section
variable {w : World} {v : Value} {D : FnD} (h : aT w v D)
include h
theorem a6K (hL : D.ls.length <= 16) (hB : D.bs.length <= 24) (hS : ∀ b ∈ D.bs, b.st.length <= 24) : bF f [v] w (.bool (l9 D)) := by
 have hS' : ∀ b ∈ D.bs, b.st.length <= 1000 /\ (zi b = true -> b.ops.length <= 1000) := fun b hb => ⟨by have := hS b hb; omega, fun e => by
  have h1 := (h.blk b hb).BO.len
  have h2 := Dw (by rw [<- h1]; rfl) e
  omega⟩
 have out := fun r (m : List Int) => outer h r (m := m) (fun _ => trivial) (by omega) hS'
 let a : Bool := D.bs.all (WI D.ls.length D.bs.length)
 let m : Bool -> List Int := fun r => [0, b2i (r && a)]
 have lib : ∀ r hb, head.mG D = hb -> ∀ K (ok : aG K (fnB w D (atB 0) (m r)).rho (fnB w D (atB 0) (m r)).sig), @Sound ((fnB w D (atB 0) (m r)).aH K ok) Tryz.prog (afT hb K) := fun r hb e =>
  Ru h ⟨_, Tryz.func55, by kernel_rfl, by kernel_rfl⟩ (fun b0 r => vmB b0 r hb) (atB 0) (m r) fun w' hw => e ▸ head.a7H hw (by omega)
 have LMh : ∀ r, LM.Holds (aF (aJ D (atB 0) (m r))) (fun _ => []) := fun r => kQ h (q := atB 0) (gG (by omega)) (iv := [ivB, ivB]) (m1 := [0, b2i (r && a)]) (m2 := []) ⟨⟨by decide, by decide⟩, rC _, trivial⟩ _
 have good : ∀ r hb, head.mG D = hb -> D.bs.all okB = true -> jG Tryz.prog (dH (afT hb) bW fun K => dP [(f, zh r (.exit 0) sNO K)]) (fnB w D (atB 0) (m r)) := fun r hb e hok =>
  fG (lib r hb e) (aU h _ _) (rows_ok (T := fun K => [(f, zh r (.exit 0) sNO K)]) fun K ok p hp => by
   obtain rfl := List.mem_singleton.1 hp
   exact ⟨F, Tryz.func33, fun c hc => iF UU ((out r (m r)).1 hok rfl K ok) hc⟩)
 have bad : ∀ r hb, head.mG D = hb -> D.bs.all okB = false -> jG Tryz.prog (dH (afT hb) bW fun K => dP [(f, zh r .ret sRO K)]) (fnB w D (atB 0) (m r)) := fun r hb e hok =>
  fG (lib r hb e) (aU h _ _) (rows_ok (T := fun K => [(f, zh r .ret sRO K)]) fun K ok p hp => by
   obtain rfl := List.mem_singleton.1 hp
   exact ⟨F, Tryz.func33, fun c hc => iF UU ((out r (m r)).2 hok K ok) hc⟩)
 have ans : ∀ r x, @VV (fnB w D (atB 0) (m r)) x (V.s (.xe [(78, 1)])) = fun u => u = .bool (r && a) := fun r x => by
  funext u
  show (u = .bool (decide (aF (aJ D (atB 0) (m r)) (77 + 1) = 1) || false)) = _
  rw [fJ, Bool.or_false]
  show (u = .bool (decide (b2i (r && a) = 1))) = _
  rw [fK]
 cases hok : D.bs.all okB with
 | false =>
  have hm : l9 D = false := by unfold l9; rw [hok]; simp
  rw [hm]
  cases hb : head.mG D with
  | false => exact jw h amk (bad false false hb hok) (LMh false) (aQ D _ _) (fun p hp => by cases hp) (fun r x hx => hx)
  | true =>
   by_cases hn : 0 < D.bs.length
   ·exact jw h aml (bad true true hb hok) ((LMh true).lo (i := 3) (c := 1) (show (1 : Int) <= (D.bs.length : Int) by omega)) (aQ D _ _) (fun p hp => by cases hp) (fun r x hx => hx)
   ·exact jw h amn (bad false true hb hok) ((LMh false).hi (i := 3) (c := 0) (show (D.bs.length : Int) <= 0 by omega)) (aQ D _ _) (fun p hp => by cases hp) (fun r x hx => hx)
 | true =>
  have hm : l9 D = (head.mG D && (decide (0 < D.bs.length) && a)) := by unfold l9; rw [hok, Bool.true_and]
  rw [hm]
  cases hb : head.mG D with
  | false => exact jw h alz (good false false hb hok) (LMh false) (aQ D _ _) (fun p hp => by cases hp) (fun r x hx => by rw [ans] at hx; exact hx)
  | true =>
   by_cases hn : 0 < D.bs.length
   ·rw [decide_eq_true hn]
    exact jw h good1 (good true true hb hok) ((LMh true).lo (i := 3) (c := 1) (show (1 : Int) <= (D.bs.length : Int) by omega)) (aQ D _ _) (fun p hp => by cases hp) (fun r x hx => by rw [ans] at hx; exact hx)
   ·rw [decide_eq_false hn]
    exact jw h akZ (good false true hb hok) ((LMh false).hi (i := 3) (c := 0) (show (D.bs.length : Int) <= 0 by omega)) (aQ D _ _) (fun p hp => by cases hp) (fun r x hx => by rw [ans] at hx; exact hx)
end
end Go.Proofs.YtglmonlofejcgaaGreatDoor.made
namespace Go.Proofs.YtglmonlofejcgaaGreatDoor.Am
open Go.RowKit
def lQ (f : Nat -> Int) : List Int := (List.range 16).map f
def bU : List (Nat -> Int) -> List Int
 | [] => []
 | f :: r => lQ f ++ bU r
theorem Px (f : Nat -> Int) : (lQ f).length = 16 := by simp [lQ]
theorem KP : ∀ fs : List (Nat -> Int), (bU fs).length = 16 * fs.length
 | [] => rfl
 | f :: r => by rw [bU, List.length_append, Px, KP r, List.length_cons]; omega
theorem Fg : ∀ (fs : List (Nat -> Int)) (tail : List Int) (b j : Nat) (f : Nat -> Int), fs[b]? = some f -> j < 16 -> aF (bU fs ++ tail) (16 * b + j) = f j
 | [], _, b, j, f, h, _ => by simp at h
 | g :: r, tail, 0, j, f, h, hj => by
  cases h
  rw [Nat.mul_zero, Nat.zero_add, bU, List.append_assoc]
  unfold aF lQ
  rw [List.getD_eq_getElem?_getD, List.getElem?_append_left (by simpa using hj), List.getElem?_map, List.getElem?_range hj]
  rfl
 | g :: r, tail, b + 1, j, f, h, hj => by
  rw [bU, List.append_assoc, show 16 * (b + 1) + j = 16 + (16 * b + j) by omega, jM (Px g)]
  exact Fg r tail b j f (by simpa using h) hj
theorem Wq (fs : List (Nat -> Int)) (tail : List Int) (j : Nat) : aF (bU fs ++ tail) (16 * fs.length + j) = aF tail j := jM (KP fs)
def nm (b j : Nat) : Nat := 77 + (16 * b + j)
def bJ (b : Nat) : List S := (List.range 16).map fun j => .xi .i64 (nm b j)
def jW (b : Nat) : List S := (List.range 16).map fun j => .xe [(nm b j, 1)]
structure Cnt where
 src : Nat
 dst : Nat
 l : Nat
 m : Nat
def trX (T : List Cnt) : vG := { eu.xt with ld := T.map fun t => (bJ t.src, t.l, t.m), sr := T.map fun t => (bJ t.src, t.l, t.m + 1, bJ t.dst) }
def RY (T : List Cnt) : Fx := ⟨T.map fun t => (t.m, 1, t.m + 1), trX T⟩
def bump (F : Nat -> Int) (l : Int) (j : Nat) : Int := F j + b2i (decide (l = j))
structure a8K (rho : Nat -> Int) (t : Cnt) : Prop where
 ex : ∃ F : Nat -> Int, (∀ j, j < 16 -> rho (nm t.src j) = F j) /\ (∀ j, j < 16 -> rho (nm t.dst j) = bump F (rho t.l) j) /\ rho t.m = F (rho t.l).toNat /\ rho (t.m + 1) = rho t.m + 1
 lo : -9223372036854775808 <= rho (t.m + 1)
 hi : rho (t.m + 1) <= 9223372036854775807
theorem qH {b j : Nat} {c : S} (h : (bJ b)[j]? = some c) : j < 16 /\ c = .xi .i64 (nm b j) := by
 have hj : j < 16 := by have := (List.getElem?_eq_some_iff.1 h).1; simpa [bJ] using this
 unfold bJ at h
 rw [List.getElem?_map, List.getElem?_range hj] at h
 cases h
 exact ⟨hj, rfl⟩
theorem Dv {T : List Cnt} {rho : Nat -> Int} (h0 : uj eu rho) (h : ∀ t ∈ T, a8K rho t) : uj (RY T) rho := by
 refine ⟨fun i c k hm => ?_, ⟨h0.xt.lf, h0.xt.sm, fun cs i m hm j c hc hj => ?_, fun cs i m ds hm => ?_, h0.xt.eq⟩⟩
 ·have hm : (i, c, k) ∈ T.map fun t => (t.m, (1 : Int), t.m + 1) := hm
  obtain ⟨t, ht, e⟩ := List.mem_map.1 hm
  cases e
  have k := h t ht
  obtain ⟨F, _, _, _, e⟩ := k.ex
  exact ⟨e.symm, k.lo, k.hi⟩
 ·have hm : (cs, i, m) ∈ T.map fun t => (bJ t.src, t.l, t.m) := hm
  obtain ⟨t, ht, e⟩ := List.mem_map.1 hm
  cases e
  obtain ⟨F, h1, _, h3, _⟩ := (h t ht).ex
  obtain ⟨hj', rfl⟩ := qH hc
  show some (rho (nm t.src j)) = some (rho t.m)
  rw [h1 j hj', h3, hj, Int.toNat_natCast]
 ·have hm : (cs, i, m, ds) ∈ T.map fun t => (bJ t.src, t.l, t.m + 1, bJ t.dst) := hm
  obtain ⟨t, ht, e⟩ := List.mem_map.1 hm
  cases e
  obtain ⟨F, h1, h2, h3, h4⟩ := (h t ht).ex
  refine ⟨by simp [bJ], fun j c d hc hd => ?_⟩
  obtain ⟨hj, rfl⟩ := qH hc
  obtain ⟨_, rfl⟩ := qH hd
  refine ⟨F j, by show some _ = some _; rw [h1 j hj], ?_⟩
  show some (rho (nm t.dst j)) = some _
  rw [h2 j hj]
  unfold bump
  by_cases e : rho t.l = (j : Int)
  ·rw [if_pos e, decide_eq_true e, h4, h3, e, Int.toNat_natCast]
   rfl
  ·rw [if_neg e, decide_eq_false e]
   show some (F j + 0) = _
   rw [Int.add_zero]
theorem gI {D : FnD} {q : At} {fs : List (Nat -> Int)} {tail : List Int} {b : Nat} {f : Nat -> Int} (h : fs[b]? = some f) {j : Nat} (hj : j < 16) : aF (aJ D q (bU fs ++ tail)) (nm b j) = f j := by
 show aF _ (77 + (16 * b + j)) = _
 rw [fJ, Fg fs tail b j f h hj]
theorem CY {D : FnD} {q : At} {fs : List (Nat -> Int)} {tail : List Int} {n : Nat} (hn : fs.length = n) (j : Nat) : aF (aJ D q (bU fs ++ tail)) (77 + (16 * n + j)) = aF tail j := by
 rw [fJ, <- hn, Wq]
def akW (b : Nat) (es : List E) (pick : List Bool -> Nat) (j : Nat) : Upd := ⟨.xi .i64 (nm b j), es, fun bs => .xi .i64 (nm (pick bs) j)⟩
def nG (b : Nat) (es : List E) (pick : List Bool -> Nat) : List Upd := (List.range 16).map (akW b es pick)
theorem dG {b1 b2 : Base} {b : Nat} {es : List E} {pick : List Bool -> Nat} (h : ∀ j, j < 16 -> b1.rho (nm (pick (es.map (E.num b1.rho))) j) = b2.rho (nm b j)) : ∀ u ∈ nG b es pick, ig b1 b2 u := by
 intro u hu r v hv
 obtain ⟨j, hj, rfl⟩ := List.mem_map.1 hu
 have hv : v = .int .i64 (b1.rho (nm (pick (es.map (E.num b1.rho))) j)) := hv
 show v = .int .i64 (b2.rho (nm b j))
 rw [hv, h j (List.mem_range.1 hj)]
def Yg (b src l : Nat) (e : E) : List Upd := (List.range 16).map fun j => ⟨.xe [(nm b j, 1)], [e], fun bs => bif bs.headD false then .xe [(l, (j : Int)), (nm src j, 1)] else .xe [(nm src j, 1)]⟩
theorem PY {b1 b2 : Base} {b src l : Nat} {e : E} (h : ∀ j, j < 16 -> (b2.rho (nm b j) = 1 ↔ ((e.num b1.rho = true /\ b1.rho l = (j : Int)) \/ b1.rho (nm src j) = 1))) : ∀ u ∈ Yg b src l e, ig b1 b2 u := by
 intro u hu r v hv
 obtain ⟨j, hj, rfl⟩ := List.mem_map.1 hu
 have hj := List.mem_range.1 hj
 have hv : @VS b1 r (bif e.num b1.rho then .xe [(l, (j : Int)), (nm src j, 1)] else .xe [(nm src j, 1)]) v := hv
 show v = .bool (decide (b2.rho (nm b j) = 1) || false)
 rw [Bool.or_false]
 have hk := h j hj
 by_cases he : e.num b1.rho = true
 ·rw [he, cond_true] at hv
  have hv : v = .bool (decide (b1.rho l = (j : Int)) || (decide (b1.rho (nm src j) = 1) || false)) := hv
  rw [hv, Bool.or_false]
  congr 1
  by_cases h1 : b1.rho l = (j : Int) <;> by_cases h2 : b1.rho (nm src j) = 1 <;> simp [h1, h2, he] at hk |- <;> simp [hk]
 ·rw [Bool.not_eq_true] at he
  rw [he, cond_false] at hv
  have hv : v = .bool (decide (b1.rho (nm src j) = 1) || false) := hv
  rw [hv, Bool.or_false]
  congr 1
  by_cases h2 : b1.rho (nm src j) = 1 <;> simp [h2, he] at hk |- <;> simp [hk]
def oL (b : Nat) : List Upd := (List.range 16).map fun j => isU (.xi .i64 (nm b j)) (.int .i64 0)
theorem uM {b1 b2 : Base} {b : Nat} (h : ∀ j, j < 16 -> b2.rho (nm b j) = 0) : ∀ u ∈ oL b, ig b1 b2 u := by
 intro u hu r v hv
 obtain ⟨j, hj, rfl⟩ := List.mem_map.1 hu
 have hv : v = .int .i64 0 := hv
 show v = .int .i64 (b2.rho (nm b j))
 rw [hv, h j (List.mem_range.1 hj)]
def DI (b : Nat) : List Upd := (List.range 16).map fun j => isU (.xe [(nm b j, 1)]) (.bool false)
theorem Hq {b1 b2 : Base} {b : Nat} (h : ∀ j, j < 16 -> b2.rho (nm b j) = 0) : ∀ u ∈ DI b, ig b1 b2 u := by
 intro u hu r v hv
 obtain ⟨j, hj, rfl⟩ := List.mem_map.1 hu
 have hv : v = .bool false := hv
 show v = .bool (decide (b2.rho (nm b j) = 1) || false)
 rw [hv, h j (List.mem_range.1 hj)]
 rfl
def iL (b src : Nat) : List Upd := nG b [] fun _ => src
def kU (b src : Nat) : List Upd := (List.range 16).map fun j => isU (.xe [(nm b j, 1)]) (.xe [(nm src j, 1)])
theorem iK {b1 b2 : Base} {b src : Nat} (h : ∀ j, j < 16 -> b1.rho (nm src j) = b2.rho (nm b j)) : ∀ u ∈ kU b src, ig b1 b2 u := by
 intro u hu
 obtain ⟨j, hj, rfl⟩ := List.mem_map.1 hu
 exact made.Vy (h j (List.mem_range.1 hj))
theorem dO {b1 b2 : Base} {us vs : List Upd} (h : ∀ u ∈ us, ig b1 b2 u) (k : ∀ u ∈ vs, ig b1 b2 u) : ∀ u ∈ us ++ vs, ig b1 b2 u := fun u hu => (List.mem_append.1 hu).elim (h u) (k u)
theorem Lr {P : Program} {b bo : Base} {c : Code} {hd : Nat -> St} {s1 : St} {x : X} (hx : x ≠ .normal) {N : Nat} (step : ∀ k, k < N -> gJ P b b c (hd k) .normal (hd (k + 1))) (last : gJ P b bo c (hd N) x s1) :
  ∀ m k, k + m = N -> ∀ {r : Ren} {B : Nat} {a : Act} {w : World}, @Rel b (hd k) r B a w -> ∀ (f : Frame) (K : List Item) (cs : List Frame),
   ∃ e a' w', Goes bo B (hd k).h r a w x s1 e a' w' /\ Arrives P (lone (f.at a (.code c :: .inLoop c :: K)) cs w) f K cs e a' w'
 | 0, k, hk, r, B, a, w, hr, f, K, cs => by
  obtain rfl : k = N := by omega
  obtain ⟨e, a1, w1, ho, harr⟩ := last.go _ _ _ _ hr f (.inLoop c :: K) cs
  refine ⟨e, a1, w1, ho, .pass (x := .inLoop c) rfl (fun _ _ => .inl ?_) harr⟩
  intro he
  subst he
  cases x <;> simp [Goes, XR] at ho
  exact hx rfl
 | m + 1, k, hk, r, B, a, w, hr, f, K, cs => by
  obtain ⟨e, a1, w1, ⟨h3, r1, h4, h5, h6⟩, harr⟩ := (step k (by omega)).go _ _ _ _ hr f (.inLoop c :: K) cs
  cases e <;> simp only [XR] at h3
  obtain ⟨e2, a2, w2, ⟨k3, r2, k4, k5, k6⟩, harr2⟩ := Lr hx step last m (k + 1) (by omega) h4 f K cs
  exact ⟨e2, a2, w2, ⟨k3, r2, k4, Adv.trans' (Parts.ok hr).dom (Parts.ok h4).dom h5 k5, k6.trans h6⟩, .of_steps (Steps.trans harr (.one step_inLoop)) harr2⟩
theorem Ef {P : Program} {bo b : Base} {c : Code} {d : Bd} {us : List Upd} {hd : Nat -> St} {s1 : St} {x : X} (hx : x ≠ .normal) {N : Nat} (ag : Agree bo b d) (hu : ∀ u ∈ us, ig bo b u)
  (step : ∀ k, k < N -> gJ P b b c (hd k) .normal (hd (k + 1))) (last : gJ P b bo c (hd N) x s1) (tag : Nat) (K : Know) (ok : aG K bo.rho bo.sig) : @aO (bo.aH K ok) P (iP tag d (@thU K us) (hd 0) x s1) c := by
 intro fl B s s' y r a w hr hl
 unfold iP at hl
 cases hc : (Nat.beq c.tag tag && Nat.beq fl 0 && Nat.beq s.h.next (hd 0).h.next && uV d (@thU K us) (hd 0) s) <;> rw [hc] at hl <;> simp only [cond_true, cond_false] at hl
 ·cases hl
 cases hl
 simp only [Bool.and_eq_true] at hc
 obtain ⟨⟨⟨_, hf⟩, hnx⟩, hfit⟩ := hc
 obtain rfl := Nat.eq_of_beq_eq_true hf
 have hnx := Nat.eq_of_beq_eq_true hnx
 obtain ⟨k1, k2⟩ := wU (ag.aH ok) (@YN (bo.aH K ok) b us hu) hfit hr
 have hadv := k2 (Parts.ok hr).n hnx (@Adv.refl (bo.aH K ok) 0 s.h r B w (@Rel.i (bo.aH K ok) _ _ _ _ _ hr)) (fun l _ h => absurd h (Nat.not_lt_zero l))
 intro f K' cs
 obtain ⟨e, a', w', ⟨g1, r', g2, g3, g4⟩, harr⟩ := Lr hx step last N 0 (by omega) k1 f K' cs
 exact ⟨e, a', w', ⟨g1, r', Rel.aH bo ok g2, Adv.trans' (Parts.ok hr).dom (Parts.ok k1).dom hadv g3, g4⟩, .of_steps (.one step_loop) harr⟩
end Go.Proofs.YtglmonlofejcgaaGreatDoor.Am
