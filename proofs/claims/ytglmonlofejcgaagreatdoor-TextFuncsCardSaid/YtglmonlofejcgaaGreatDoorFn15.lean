/- What fnshape.twos and fnshape.Check answer. The reference's far and Occurs: how often each local occurs in a statement, and whether one occurs that is not near. The reference's Occurs: how often each local occurs in a statement. -/
import Derived.Test.YtglmonlofejcgaaGreatDoorFn12
set_option linter.unusedVariables false
set_option linter.unusedSectionVars false
set_option maxRecDepth 100000
namespace Go.Proofs.YtglmonlofejcgaaGreatDoor.twos
open Go.RowKit Am
theorem qm {p : Int × Int} {f : Nat -> Int} (h : ∀ j, InI p (f j)) : ak InI (List.replicate 16 p) (lQ f) :=
 ⟨h 0, h 1, h 2, h 3, h 4, h 5, h 6, h 7, h 8, h 9, h 10, h 11, h 12, h 13, h 14, h 15, trivial⟩
theorem iJ (b : Base) (d : Bd) : Agree b b d := ⟨rfl, rfl, fun _ _ => rfl, fun _ _ => rfl, fun _ _ => rfl⟩
section
variable {w : World} {v : Value} {D : FnD} (h : aT w v D)
include h
theorem aiS (hs : Sm D) : (Ct.fn D).In 24000 := by
 have e : Ct.at D D.bs.length = Ct.fn D := by unfold Ct.at Ct.fn; rw [List.take_length]
 rw [<- e]
 exact In.more (In.at hs (Nat.le_refl _)) (by have := hs.b; omega)
theorem yD (hs : Sm D) : LT.Holds (aF (aJ D (atB 0) (mF D))) (fun _ => []) := by
 have hc := aiS h hs
 have : ak InI (List.replicate 48 Hy ++ List.replicate 16 ivB) (mF D) :=
  fZ (a := List.replicate 16 Hy) (qm fun j => by have := hc.a j; show (-9223372036854775808 : Int) <= _ /\ _ <= (9223372036854775807 : Int); omega)
   (fZ (a := List.replicate 16 Hy) (qm fun j => by have := hc.p j; show (-9223372036854775808 : Int) <= _ /\ _ <= (9223372036854775807 : Int); omega)
    (fZ (a := List.replicate 16 Hy) (qm fun j => by have := hc.s j; show (-9223372036854775808 : Int) <= _ /\ _ <= (9223372036854775807 : Int); omega)
     (fZ (a := List.replicate 16 ivB) (c := []) (qm fun j => rC _) trivial)))
 have := kQ h (q := atB 0) (gG (by omega)) this (m2 := []) (fun _ => [])
 rwa [List.append_nil] at this
theorem WH {b : Nat} {G : Nat -> Int} (e : [(Ct.fn D).a, (Ct.fn D).p, (Ct.fn D).s, fun j => b2i ((Ct.fn D).i j)][b]? = some G) {j : Nat} (hj : j < 16) : aF (aJ D (atB 0) (mF D)) (nm b j) = G j := by
 have := gI (D := D) (q := atB 0) (tail := []) e hj
 rwa [List.append_nil] at this
theorem aeG {t : Nat} (ht : t < 16) : (a0e t).num (aF (aJ D (atB 0) (mF D))) = Dy D t := by
 show ((!(decide (aF _ (nm 3 t) = 1) && true)) || (decide (D.p < (t : Int)) && ((decide (aF _ (nm 0 t) = 2) && true) && ((decide (aF _ (nm 1 t) = 1) && true) && (decide (aF _ (nm 2 t) = 1) && true))))) = _
 rw [WH h (b := 3) (G := fun j => b2i ((Ct.fn D).i j)) rfl ht, WH h (b := 0) rfl ht, WH h (b := 1) rfl ht, WH h (b := 2) rfl ht, made.fK]
 unfold Dy
 rw [Bool.and_true, Bool.and_true, Bool.and_true, Bool.and_true]
theorem last (hs : Sm D) {r : Bool} (hr : qW D = r) : ∀ K (ok : aG K (fnB w D (atB 0) (mF D)).rho (fnB w D (atB 0) (mF D)).sig), @aO ((fnB w D (atB 0) (mF D)).aH K ok) Tryz.prog (rowT (if r then .exit 4 else .ret) (if r then sNT else sRT) K) gQ := by
 intro K ok
 have hLT := yD h hs
 have giv : ∀ t b, t < 16 -> Dy D t = b -> ∀ p ∈ [(a0e t, b)], p.1.num (aF (aJ D (atB 0) (mF D))) = p.2 := fun t b ht e p hp => by
  obtain rfl := List.mem_singleton.1 hp
  exact (aeG h ht).trans e
 have step : ∀ t, t < 16 -> Dy D t = true -> gJ Tryz.prog (fnB w D (atB 0) (mF D)) (fnB w D (atB 0) (mF D)) gQ (hdT t) .normal (hdT (t + 1)) := fun t ht e =>
  bG (List.all_eq_true.1 stepT t (List.mem_range.2 ht)) (bg (aU h _ _)) (iJ _ _) hLT (aQ D _ _) (giv t true ht e) (fun u hu => by cases hu) rfl (bf f gQ)
 cases r with
 | true =>
  refine @Ef _ _ _ gQ _ _ hdT _ _ (fun e => by cases e) 16 (iJ _ _) (fun u hu => by cases hu) (fun t ht => step t ht (List.all_eq_true.1 hr t (List.mem_range.2 ht))) ?_ 19 K ok
  exact bG WG (bg (aU h _ _)) (iJ _ _) hLT (aQ D _ _) (fun p hp => by cases hp) (fun u hu => by cases hu) rfl (bf f gQ)
 | false =>
  rcases jl (Dy D) 16 with hall | ⟨N, hN, h0, hn⟩
  ·unfold qW at hr
   rw [List.all_eq_true.2 fun t ht => hall t (List.mem_range.1 ht)] at hr
   cases hr
  ·refine @Ef _ _ _ gQ _ _ hdT _ _ (fun e => by cases e) N (iJ _ _) (fun u hu => by cases hu) (fun t ht => step t (by omega) (h0 t ht)) ?_ 19 K ok
   exact bG (List.all_eq_true.1 aea N (List.mem_range.2 hN)) (bg (aU h _ _)) (iJ _ _) hLT (aQ D _ _) (giv N false hN hn) (fun u hu => by cases hu) rfl (bf f gQ)
def isV (D : FnD) : Value := .agg ((List.range 16).map fun j => Value.bool ((Ct.fn D).i j)).toArray
theorem aaq (hs : Sm D) (hok : ∀ b ∈ D.bs, made.okB b = true) : bF f [v] w (.tuple #[isV D, .bool (qW D)]) := by
 have val : ∀ r x u, @VV (fnB w D (atB 0) (mF D)) x (akb r) u -> u = .tuple #[isV D, .bool r] := fun r x u hu => by
  obtain ⟨vs, rfl, hv⟩ := hu
  match vs, hv with
  | [a, c], ⟨⟨us, ha, hus⟩, hc, _⟩ =>
   have hc : c = .bool r := hc
   rw [hc, ha]
   show Value.tuple #[_, _] = _
   congr 3
   unfold isV
   congr 2
   refine List.ext_getElem? fun j => ?_
   by_cases hj : j < 16
   ·have hb : nth (jW 3) j = some (.xe [(nm 3 j, 1)]) := by
     rw [aK]
     unfold jW
     rw [List.getElem?_map, List.getElem?_range hj]
     rfl
    obtain ⟨u, hu, hv⟩ := ak.nth hus hb
    rw [hu, List.getElem?_map, List.getElem?_range hj]
    have hv : u = .bool (decide (aF (aJ D (atB 0) (mF D)) (nm 3 j) = 1) || false) := hv
    rw [hv, WH h (b := 3) (G := fun j => b2i ((Ct.fn D).i j)) rfl hj, made.fK, Bool.or_false]
    rfl
   ·have hl : us.length = 16 := by have := hus.len; simp [jW] at this; omega
    rw [List.getElem?_eq_none (by omega), List.getElem?_eq_none (by simp; omega)]
 have rig : ∀ r, qW D = r -> jG Tryz.prog (dH gZ bW (ady (if r then .exit 4 else .ret) (if r then sNT else sRT))) (fnB w D (atB 0) (mF D)) := fun r hr =>
  fG iR (aU h _ _) (rows_ok fun K ok p hp => by
   simp only [List.mem_cons, List.not_mem_nil, or_false] at hp
   rcases hp with rfl | rfl
   ·exact ⟨F, Tryz.func34, fun c hc => iF UU (outer h hs hok K ok) hc⟩
   ·exact ⟨F, Tryz.func34, fun c hc => iF adJ (last h hs hr K ok) hc⟩)
 cases hr : qW D with
 | true => exact jw h al4 (rig true hr) (yD h hs) (aQ D _ _) (fun p hp => by cases hp) (fun r x hx => val true r x hx)
 | false => exact jw h ajm (rig false hr) (yD h hs) (aQ D _ _) (fun p hp => by cases hp) (fun r x hx => val false r x hx)
end
end Go.Proofs.YtglmonlofejcgaaGreatDoor.twos
namespace Go.Proofs.YtglmonlofejcgaaGreatDoor.check
open Go.RowKit Am
noncomputable def f : FuncId := 21
def oV (D : FnD) : Int := if many.iO D then 4 else if !made.l9 D then 8 else if !twos.qW D then 12 else 0
def amB (r : Bool) : V := .t [.g (List.replicate 16 .top), .s (.bool r)]
noncomputable def lib (l : List (FuncId × V)) : Know -> aS := fun _ => I7 (l.map fun p => ku p.1 [.g bQ] p.2)
noncomputable def rL (b : Bool) : FuncId × V := (many.fA, V.s (.bool b))
noncomputable def rM (b : Bool) : FuncId × V := (made.f, V.s (.bool b))
noncomputable def rT (b : Bool) : FuncId × V := (twos.f, amB b)
noncomputable def run (l : List (FuncId × V)) (n : Int) : Lf -> Bool := kG (dH (lib l) bW aX) f eu [] [] (fun _ => V.s (.int .i64 n)) [.g bQ]
noncomputable def L0 : Lf := Lf.of (fE ++ [])
theorem ajd : aI (run [rL true] 4) .leaf L0 = true := by kernel_rfl
theorem ajb : aI (run [rL false, rM false] 8) .leaf L0 = true := by kernel_rfl
theorem a9c : aI (run [rL false, rM true, rT false] 12) .leaf L0 = true := by kernel_rfl
theorem ajQ : aI (run [rL false, rM true, rT true] 0) .leaf L0 = true := by kernel_rfl
theorem vC {D : FnD} (h : many.iO D = false) : D.ls.length <= 16 /\ D.bs.length <= 24 /\ ∀ b ∈ D.bs, b.st.length <= 24 := by
 unfold many.iO at h
 simp only [Bool.or_eq_false_iff, decide_eq_false_iff_not, Bool.not_eq_false'] at h
 obtain ⟨h1, h2, h3⟩ := h
 exact ⟨by omega, by omega, fun b hb => of_decide_eq_true (List.all_eq_true.1 h3 b hb)⟩
theorem Nu {D : FnD} (h : made.l9 D = true) : ∀ b ∈ D.bs, made.okB b = true := by
 unfold made.l9 at h
 simp only [Bool.and_eq_true] at h
 exact List.all_eq_true.1 h.2.2.1
section
variable {w : World} {v : Value} {D : FnD} (h : aT w v D)
include h
theorem a88 (hs : many.iO D = false) (hm : made.l9 D = true) : twos.Sm D := by
 obtain ⟨_, h2, h3⟩ := vC hs
 refine ⟨h2, fun b hb => ⟨h3 b hb, ?_⟩⟩
 have ok := Nu hm b hb
 unfold made.okB at ok
 rw [Bool.and_eq_true] at ok
 exact Dw (by rw [<- (h.blk b hb).BO.len]; rfl) ok.2
theorem a9U {q : At} {m : List Int} {l : List (FuncId × V)} (hl : ∀ p ∈ l, dB Tryz.prog p.1 /\ ∃ u, (∀ (b0 : Base) r, @VV b0 r p.2 u) /\ ∀ w', aT w' v D -> bF p.1 [v] w' u) (K : Know) (ok : aG K (fnB w D q m).rho (fnB w D q m).sig) : @Sound ((fnB w D q m).aH K ok) Tryz.prog (lib l K) :=
 @jA ((fnB w D q m).aH K ok) _ _ fun o ho => by
  obtain ⟨p, hp, rfl⟩ := List.mem_map.1 ho
  obtain ⟨h1, u, h2, h3⟩ := hl p hp
  exact Ru h h1 h2 q m h3 K ok
theorem a2a : bF f [v] w (.int .i64 (oV D)) := by
 have L0h : L0.Holds (aF (aJ D (atB 0) [])) (fun _ => []) := kQ h (q := atB 0) (gG (by omega)) (iv := []) (m1 := []) (m2 := []) trivial _
 have pL : ∀ b, many.iO D = b -> dB Tryz.prog (rL b).1 /\ ∃ u, (∀ (b0 : Base) r, @VV b0 r (rL b).2 u) /\ ∀ w', aT w' v D -> bF (rL b).1 [v] w' u := fun b e => ⟨⟨_, Tryz.func32, by kernel_rfl, by kernel_rfl⟩, .bool b, fun _ _ => rfl, fun w' hw => e ▸ many.a3f hw⟩
 have pM : ∀ b, many.iO D = false -> made.l9 D = b -> dB Tryz.prog (rM b).1 /\ ∃ u, (∀ (b0 : Base) r, @VV b0 r (rM b).2 u) /\ ∀ w', aT w' v D -> bF (rM b).1 [v] w' u := fun b e0 e => ⟨⟨_, Tryz.func33, by kernel_rfl, by kernel_rfl⟩, .bool b, fun _ _ => rfl, fun w' hw => e ▸ (by
  obtain ⟨s1, s2, s3⟩ := vC e0
  exact made.a6K hw s1 s2 s3)⟩
 have pT : ∀ b, many.iO D = false -> made.l9 D = true -> twos.qW D = b -> dB Tryz.prog (rT b).1 /\ ∃ u, (∀ (b0 : Base) r, @VV b0 r (rT b).2 u) /\ ∀ w', aT w' v D -> bF (rT b).1 [v] w' u := fun b e0 e1 e => ⟨⟨_, Tryz.func34, by kernel_rfl, by kernel_rfl⟩, .tuple #[twos.isV D, .bool b], fun b0 r => ⟨[twos.isV D, .bool b], rfl, ⟨_, rfl, ⟨rfl, rfl, rfl, rfl, rfl, rfl, rfl, rfl, rfl, rfl, rfl, rfl, rfl, rfl, rfl, rfl, trivial⟩⟩, rfl, trivial⟩, fun w' hw => e ▸ twos.aaq hw (a88 hw e0 e1) (Nu e1)⟩
 have go : ∀ {l : List (FuncId × V)} {n : Int}, aI (run l n) .leaf L0 = true -> (∀ p ∈ l, dB Tryz.prog p.1 /\ ∃ u, (∀ (b0 : Base) r, @VV b0 r p.2 u) /\ ∀ w', aT w' v D -> bF p.1 [v] w' u) -> bF f [v] w (.int .i64 n) := fun {l n} hr hl =>
  jw h hr (fG (a9U h hl) (aU h _ _) nK) L0h (aQ D _ _) (fun p hp => by cases hp) (fun r x hx => hx)
 unfold oV
 cases e0 : many.iO D with
 | true => exact go ajd (fun p hp => by obtain rfl := List.mem_singleton.1 hp; exact pL true e0)
 | false =>
  cases e1 : made.l9 D with
  | false => exact go ajb (fun p hp => by
    simp only [List.mem_cons, List.not_mem_nil, or_false] at hp
    rcases hp with rfl | rfl
    ·exact pL false e0
    ·exact pM false e0 e1)
  | true =>
   cases e2 : twos.qW D with
   | false => exact go a9c (fun p hp => by
     simp only [List.mem_cons, List.not_mem_nil, or_false] at hp
     rcases hp with rfl | rfl | rfl
     ·exact pL false e0
     ·exact pM true e0 e1
     ·exact pT false e0 e1 e2)
   | true => exact go ajQ (fun p hp => by
     simp only [List.mem_cons, List.not_mem_nil, or_false] at hp
     rcases hp with rfl | rfl | rfl
     ·exact pL false e0
     ·exact pM true e0 e1
     ·exact pT true e0 e1 e2)
end
end Go.Proofs.YtglmonlofejcgaaGreatDoor.check
namespace Go.Proofs.YtglmonlofejcgaaGreatDoor.Am
open Go.RowKit
noncomputable section
def ad8 (R : Rig) (f : FuncId) (fx : Fx) (giv : List (E × Bool)) (es : List E) (g : List Bool -> V) (args : List A) (L : Lf) : Bool :=
 @KU (L.jd fx) giv || Option.rec false (fun bs => akA (g bs) (@qE (L.jd fx) R.ty R.fn (R.lib (L.jd fx)) R.tb (R.loops (L.jd fx)) R.n R.d f (args.map L.nA) ⟨[], 0⟩ 0)) (@xX (L.jd fx) es)
theorem YI {P : Program} {R : Rig} {f : FuncId} {b : Base} {w : World} (hnb : b.nb <= w.heap.size) (hg : ∀ k, k < b.nb -> w.heap[k]? = b.g k) (hR : jG P R b) {L0 : Lf} {hs : HT} {fx : Fx} {giv : List (E × Bool)} {es : List E} {g : List Bool -> V} {args : List A} {vs : List Value}
  (h0 : L0.Holds b.rho b.sig) (hf : uj fx b.rho) (has : ∀ p ∈ giv, p.1.num b.rho = p.2) (ha : ak (@VA b r0) args vs) (hrun : aI (ad8 R f fx giv es g args) hs L0 = true) :
  Calls P f vs.toArray w fun x w' => ∃ u r, x = .returned u /\ @VV b r (g (es.map (E.num b.rho))) u /\ Below w.heap.size w w' := by
 obtain ⟨L, hLh, ht⟩ := nT hrun h0
 unfold ad8 at ht
 rw [Bool.or_eq_true] at ht
 let bL : Base := b.aH (L.jd fx) (Lf.okX hLh hf)
 rcases ht with ht | ht
 ·rw [@Eh bL giv has] at ht
  cases ht
 ·cases ha' : @xX (L.jd fx) es with
  | none => rw [ha'] at ht; cases ht
  | some bs =>
   rw [ha'] at ht
   obtain ⟨h', hr⟩ := ZM ht
   have e : es.map (E.num b.rho) = bs := @yP bL _ _ ha'
   rw [e]
   exact @gY bL P w hnb hg _ (hR.sound _ _) f _ _ (@Lf.yj bL L r0 hLh _ _ ha) _ h' hr
end
end Go.Proofs.YtglmonlofejcgaaGreatDoor.Am
namespace Go.Proofs.YtglmonlofejcgaaGreatDoor.far
open Go.RowKit Am
noncomputable def f : FuncId := 106
def sF (ns : Nat -> Int) (c : Nat) : Bool := (List.range 16).any fun j => decide (c < j + 1) && !decide (ns j < 1)
def afu : E := (List.range 16).foldr (fun (j : Nat) (e : E) => .or (.and (.lt 0 ((j : Int) + 1)) (.not (.lt (1 + j) 1))) e) (.not (.zero []))
def chain : Nat -> Nat -> HT
 | 0, _ => .leaf
 | n + 1, j => .on (1 + j) 1 (chain n (j + 1)) .leaf
def tree : HT := (List.range 16).foldr (fun (k : Nat) (t : HT) => .on 0 ((k : Int) + 2) (chain (15 - k) (k + 1)) t) .leaf
def args : List A := [.g ((List.range 16).map fun j => .xi .i64 (1 + j)), .s (.xi .i64 0)]
noncomputable def L0 : Lf := Lf.of ((1, 16) :: List.replicate 16 twos.Hy)
noncomputable def run : Lf -> Bool := ad8 (dH gZ Tabs.nought aX) f ⟨[], vG.nought⟩ [] [afu] (fun bs => V.s (.bool (bs.headD false))) args
theorem pG : aI run tree L0 = true := by kernel_rfl
theorem aia (ns : Nat -> Int) (hn : ∀ j, -9223372036854775808 <= ns j /\ ns j <= 9223372036854775807) (c : Nat) (h1 : 1 <= c) (h16 : c <= 16) (w : World) :
  bF f [.agg ((List.range 16).map fun j => Value.int .i64 (ns j)).toArray, .int .i64 c] w (.bool (sF ns c)) := by
 let e : Env := ⟨w, (c : Int) :: lQ ns, []⟩
 have rn : ∀ j, j < 16 -> aF ((c : Int) :: lQ ns) (1 + j) = ns j := fun j hj => by
  have := Fg [ns] [] 0 j ns rfl hj
  simp only [bU, List.append_nil, Nat.mul_zero, Nat.zero_add] at this
  rw [show (c : Int) :: lQ ns = [(c : Int)] ++ lQ ns from rfl, jM (n := 1) rfl]
  exact this
 have hL : L0.Holds e.b.rho e.b.sig := Lf.af6 fun i p hp => by
  have hall : ak InI ((1, 16) :: List.replicate 16 twos.Hy) ((c : Int) :: lQ ns) := ⟨⟨by show (1 : Int) <= c; omega, by show (c : Int) <= 16; omega⟩, twos.qm hn⟩
  obtain ⟨x, hx, hi⟩ := ak.nth hall (n := i) (x := p) (by rw [aK]; exact hp)
  have : aF ((c : Int) :: lQ ns) i = x := by unfold aF; rw [List.getD_eq_getElem?_getD, hx]; rfl
  show p.1 <= aF ((c : Int) :: lQ ns) i /\ aF ((c : Int) :: lQ ns) i <= p.2
  rw [this]
  exact hi
 have ha : ak (@VA e.b r0) args [.agg ((List.range 16).map fun j => Value.int .i64 (ns j)).toArray, .int .i64 c] := by
  refine ⟨⟨_, rfl, fC (by simp) fun j x u hx hu => ?_⟩, rfl, trivial⟩
  have hj : j < 16 := by have := (List.getElem?_eq_some_iff.1 hu).1; simpa using this
  rw [List.getElem?_map, List.getElem?_range hj] at hx hu
  cases hx
  cases hu
  show Value.int .i64 _ = .int .i64 (aF ((c : Int) :: lQ ns) (1 + j))
  rw [rn j hj]
 have hE : afu.num e.b.rho = sF ns c := by
  show afu.num (aF ((c : Int) :: lQ ns)) = _
  have e0 : aF ((c : Int) :: lQ ns) 0 = c := rfl
  have ej : ∀ j : Nat, (E.and (.lt 0 ((j : Int) + 1)) (.not (.lt (1 + j) 1))).num (aF ((c : Int) :: lQ ns)) = (decide ((c : Int) < (j : Int) + 1) && !decide (aF ((c : Int) :: lQ ns) (1 + j) < 1)) := fun j => rfl
  have key : ∀ l : List Nat, (∀ j ∈ l, j < 16) -> ((l.foldr (fun (j : Nat) (e : E) => E.or (.and (.lt 0 ((j : Int) + 1)) (.not (.lt (1 + j) 1))) e) (.not (.zero []))).num (aF ((c : Int) :: lQ ns))) = l.any fun j => decide (c < j + 1) && !decide (ns j < 1) := by
   intro l
   induction l with
   | nil => intro _; rfl
   | cons j l ih =>
    intro hl
    show ((E.and _ _).num _ || _) = _
    rw [ej, ih fun x hx => hl x (by simp [hx]), rn j (hl j (by simp)), List.any_cons]
    congr 2
    exact decide_eq_decide.2 (by omega)
  exact key _ fun j hj => List.mem_range.1 hj
 have hR : jG Tryz.prog (dH gZ Tabs.nought aX) e.b := bg (@aZ.nought e.b)
 have := YI (b := e.b) (w := w) (Nat.le_refl _) (fun _ _ => rfl) hR hL ⟨fun _ _ _ h => (by cases h), um.nought _⟩ (fun p hp => by cases hp) ha pG
 refine bF.of (b := e.b) (v := V.s (.bool (sF ns c))) (fun r x hx => hx) ?_
 refine this.mono fun x w' ⟨u, r, e1, e2, e3⟩ => ⟨u, r, e1, ?_, e3⟩
 have e2 : u = .bool (afu.num e.b.rho) := e2
 show u = _
 rw [e2, hE]
end Go.Proofs.YtglmonlofejcgaaGreatDoor.far
namespace Go.Proofs.YtglmonlofejcgaaGreatDoor.Am
open Go.RowKit
structure Yr where
 dst : Nat
 l : Nat
 m : Nat
def jg : List S := List.replicate 16 (.int .i64 0)
def am9 (Z : List Yr) (T : List Cnt) : vG := { eu.xt with ld := Z.map (fun t => (jg, t.l, t.m)) ++ T.map fun t => (bJ t.src, t.l, t.m), sr := Z.map (fun t => (jg, t.l, t.m + 1, bJ t.dst)) ++ T.map fun t => (bJ t.src, t.l, t.m + 1, bJ t.dst) }
def Un (Z : List Yr) (T : List Cnt) : Fx := ⟨Z.map (fun t => (t.m, 1, t.m + 1)) ++ T.map fun t => (t.m, 1, t.m + 1), am9 Z T⟩
structure a6Q (rho : Nat -> Int) (t : Yr) : Prop where
 d : ∀ j, j < 16 -> rho (nm t.dst j) = bump (fun _ => 0) (rho t.l) j
 m0 : rho t.m = 0
 m1 : rho (t.m + 1) = 1
theorem UE {j : Nat} {c : S} (h : jg[j]? = some c) : j < 16 /\ c = .int .i64 0 := by
 have hj : j < 16 := by have := (List.getElem?_eq_some_iff.1 h).1; simpa [jg] using this
 unfold jg at h
 rw [List.getElem?_replicate, if_pos hj] at h
 cases h
 exact ⟨hj, rfl⟩
theorem UW {Z : List Yr} {T : List Cnt} {rho : Nat -> Int} (h0 : uj eu rho) (hz : ∀ t ∈ Z, a6Q rho t) (h : ∀ t ∈ T, a8K rho t) : uj (Un Z T) rho := by
 have hT := Dv h0 h
 refine ⟨fun i c k hm => ?_, ⟨h0.xt.lf, h0.xt.sm, fun cs i m hm => ?_, fun cs i m ds hm => ?_, h0.xt.eq⟩⟩
 ·rcases List.mem_append.1 (show (i, c, k) ∈ Z.map (fun t => (t.m, (1 : Int), t.m + 1)) ++ T.map fun t => (t.m, (1 : Int), t.m + 1) from hm) with hm | hm
  ·obtain ⟨t, ht, e⟩ := List.mem_map.1 hm
   cases e
   have k := hz t ht
   rw [k.m0, k.m1]
   exact ⟨rfl, by decide, by decide⟩
  ·exact hT.ad i c k hm
 ·rcases List.mem_append.1 (show (cs, i, m) ∈ Z.map (fun t => (jg, t.l, t.m)) ++ T.map fun t => (bJ t.src, t.l, t.m) from hm) with hm | hm
  ·obtain ⟨t, ht, e⟩ := List.mem_map.1 hm
   cases e
   intro j c hc _
   obtain ⟨_, rfl⟩ := UE hc
   show some (0 : Int) = some (rho t.m)
   rw [(hz t ht).m0]
  ·exact hT.xt.ld cs i m hm
 ·rcases List.mem_append.1 (show (cs, i, m, ds) ∈ Z.map (fun t => (jg, t.l, t.m + 1, bJ t.dst)) ++ T.map fun t => (bJ t.src, t.l, t.m + 1, bJ t.dst) from hm) with hm | hm
  ·obtain ⟨t, ht, e⟩ := List.mem_map.1 hm
   cases e
   have k := hz t ht
   refine ⟨by simp [bJ, jg], fun j c d hc hd => ?_⟩
   obtain ⟨hj, rfl⟩ := UE hc
   obtain ⟨_, rfl⟩ := qH hd
   refine ⟨0, rfl, ?_⟩
   show some (rho (nm t.dst j)) = _
   rw [k.d j hj, k.m1]
   unfold bump
   by_cases e : rho t.l = (j : Int)
   ·rw [if_pos e, decide_eq_true e]; rfl
   ·rw [if_neg e, decide_eq_false e]; rfl
  ·exact hT.xt.sr cs i m ds hm
theorem Il {D : FnD} {q : At} {fs : List (Nat -> Int)} {tail : List Int} {t : Yr} {n N : Nat} (hn : fs.length = N) (h2 : fs[t.dst]? = some (bump (fun _ => 0) (aF (aJ D q (bU fs ++ tail)) t.l))) (hm : t.m = 77 + (16 * N + n)) (e0 : aF tail n = 0) (e1 : aF tail (n + 1) = 1) : a6Q (aF (aJ D q (bU fs ++ tail))) t :=
 ⟨fun j hj => gI h2 hj, by rw [hm, CY hn, e0], by rw [hm, show 77 + (16 * N + n) + 1 = 77 + (16 * N + (n + 1)) by omega, CY hn, e1]⟩
end Go.Proofs.YtglmonlofejcgaaGreatDoor.Am
namespace Go.Proofs.YtglmonlofejcgaaGreatDoor.occurs
open Go.RowKit Am
noncomputable def f : FuncId := 79
def Z : List Yr := [⟨0, 49, 189⟩, ⟨1, 46, 191⟩, ⟨2, 25, 193⟩]
def T : List Cnt := [⟨2, 3, 41, 195⟩, ⟨2, 4, 33, 197⟩, ⟨4, 5, 38, 199⟩, ⟨2, 6, 38, 201⟩]
def o0 : Nat -> Int := fun _ => 0
def rows (st : List Value) : List (Nat -> Int) :=
 [bump o0 (ah st 25), bump o0 (ah st 22), bump o0 (ah st 1), bump (bump o0 (ah st 1)) (ah st 17), bump (bump o0 (ah st 1)) (ah st 9), bump (bump (bump o0 (ah st 1)) (ah st 9)) (ah st 14), bump (bump o0 (ah st 1)) (ah st 14)]
def more (st : List Value) : List Int := bU (rows st) ++ ([0, 1, 0, 1, 0, 1] ++ (twos.tZ (bump o0 (ah st 1)) (ah st 17) ++ (twos.tZ (bump o0 (ah st 1)) (ah st 9) ++ (twos.tZ (bump (bump o0 (ah st 1)) (ah st 9)) (ah st 14) ++ twos.tZ (bump o0 (ah st 1)) (ah st 14)))))
def out (bs : List Bool) : V := .a (.g (bif Nat.beq (twos.je bs) 0 then jg else bJ (twos.je bs - 1)))
def op4 (k : Nat) (t : HT) : HT := .by k 1 t (.by k 2 t (.by k 3 t (.by k 4 t t)))
def sa0 : HT := .by 44 1 .leaf .leaf
def asT : HT := .on 28 1 .leaf (.on 28 2 (op4 31 sa0) (.on 28 3 (op4 31 (op4 36 sa0)) (.on 28 4 (op4 31 (op4 36 sa0)) (.on 28 6 (.by 28 5 sa0 sa0) .leaf))))
def stT : HT := .on 24 1 .leaf (.on 24 2 asT (.on 24 3 (op4 44 .leaf) (.on 24 4 sa0 (.on 24 5 (op4 44 .leaf) .leaf))))
noncomputable def L1 : Lf := twos.LI (Lf.of (fE ++ []))
noncomputable def run : Lf -> Bool := kG (dH gZ Tabs.nought aX) f (Un Z T) [(a4d, true)] (twos.wY.map twos.yA) out [.g kM]
theorem pG : aI run stT L1 = true := by kernel_rfl
end Go.Proofs.YtglmonlofejcgaaGreatDoor.occurs
