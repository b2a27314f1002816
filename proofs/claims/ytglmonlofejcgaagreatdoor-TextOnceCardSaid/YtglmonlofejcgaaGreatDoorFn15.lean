/- What fnshape.twos and fnshape.Check answer. -/
import Derived.Test.YtglmonlofejcgaaGreatDoorFn12
set_option maxRecDepth 100000
open List renaming replicate → apu, all_eq_true → apv, mem_range → apw, range → apx, not_mem_nil → apy, getElem?_range → apz, mem_cons → apB, getElem?_map → apC, getElem?_eq_some_iff → apD, mem_map → apE, append_nil → apF, mem_append → apG, getElem?_eq_none → apH, mem_singleton → apI
open Bool renaming and_true → apA, and_eq_true → apJ
set_option linter.unusedVariables false
set_option linter.unusedSectionVars false
namespace Go.Proofs.YtglmonlofejcgaaGreatDoor
namespace twos
open Go.RowKit Am
theorem qY {p : Int × Int} {f : Nat -> Int} (h : ∀ j, InI p (f j)) : ak InI (apu 16 p) (nG f) :=
 ⟨h 0, h 1, h 2, h 3, h 4, h 5, h 6, h 7, h 8, h 9, h 10, h 11, h 12, h 13, h 14, h 15, trivial⟩
theorem iP (b : Base) (d : Bd) : Agree b b d := ⟨rfl, rfl, fun _ _ => rfl, fun _ _ => rfl, fun _ _ => rfl⟩
section
variable {w : World} {v : Value} {D : FnD} (h : aV w v D)
include h
theorem alh (hs : Sm D) : (Ct.fn D).In 24000 := by
 have e : Ct.at D D.bs.length = Ct.fn D := by unfold Ct.at Ct.fn; rw [List.take_length]
 rw [<- e]
 exact In.more (In.at hs (Nat.le_refl _)) (by have := hs.b; omega)
theorem zS (hs : Sm D) : LT.Holds (aF (aK D (atB 0) (mF D))) (fun _ => []) := by
 have hc := alh h hs
 have : ak InI (apu 48 Jl ++ apu 16 ivB) (mF D) :=
  gG (a := apu 16 Jl) (qY fun j => by have := hc.a j; show (-9223372036854775808 : Int) <= _ /\ _ <= (9223372036854775807 : Int); omega)
   (gG (a := apu 16 Jl) (qY fun j => by have := hc.p j; show (-9223372036854775808 : Int) <= _ /\ _ <= (9223372036854775807 : Int); omega)
    (gG (a := apu 16 Jl) (qY fun j => by have := hc.s j; show (-9223372036854775808 : Int) <= _ /\ _ <= (9223372036854775807 : Int); omega)
     (gG (a := apu 16 ivB) (c := []) (qY fun j => sU _) trivial)))
 have := lG h (q := atB 0) (gX (by omega)) this (m2 := []) (fun _ => [])
 rwa [apF] at this
theorem Yl {b : Nat} {G : Nat -> Int} (e : [(Ct.fn D).a, (Ct.fn D).p, (Ct.fn D).s, fun j => b2i ((Ct.fn D).i j)][b]? = some G) {j : Nat} (hj : j < 16) : aF (aK D (atB 0) (mF D)) (nm b j) = G j := by
 have := gV (D := D) (q := atB 0) (tail := []) e hj
 rwa [apF] at this
theorem adK {t : Nat} (ht : t < 16) : (a2E t).num (aF (aK D (atB 0) (mF D))) = Fg D t := by
 show ((!(decide (aF _ (nm 3 t) = 1) && true)) || (decide (D.p < (t : Int)) && ((decide (aF _ (nm 0 t) = 2) && true) && ((decide (aF _ (nm 1 t) = 1) && true) && (decide (aF _ (nm 2 t) = 1) && true))))) = _
 rw [Yl h (b := 3) (G := fun j => b2i ((Ct.fn D).i j)) rfl ht, Yl h (b := 0) rfl ht, Yl h (b := 1) rfl ht, Yl h (b := 2) rfl ht, made.eG]
 unfold Fg
 rw [apA, apA, apA, apA]
theorem last (hs : Sm D) {r : Bool} (hr : rQ D = r) : ∀ K (ok : aG K (fnB w D (atB 0) (mF D)).rho (fnB w D (atB 0) (mF D)).sig), @aO ((fnB w D (atB 0) (mF D)).aH K ok) Tryz.prog (rowT (if r then .exit 4 else .ret) (if r then sNT else sRT) K) ig := by
 intro K ok
 have hLT := zS h hs
 have giv : ∀ t b, t < 16 -> Fg D t = b -> ∀ p ∈ [(a2E t, b)], p.1.num (aF (aK D (atB 0) (mF D))) = p.2 := fun t b ht e p hp => by
  obtain rfl := apI.1 hp
  exact (adK h ht).trans e
 have step : ∀ t, t < 16 -> Fg D t = true -> gZ Tryz.prog (fnB w D (atB 0) (mF D)) (fnB w D (atB 0) (mF D)) ig (hdT t) .normal (hdT (t + 1)) := fun t ht e =>
  bF (apv.1 stepT t (apw.2 ht)) (bD (aT h _ _)) (iP _ _) hLT (aQ D _ _) (giv t true ht e) (fun u hu => by cases hu) rfl (bC f ig)
 cases r with
 | true =>
  refine @Ej _ _ _ ig _ _ hdT _ _ (fun e => by cases e) 16 (iP _ _) (fun u hu => by cases hu) (fun t ht => step t ht (apv.1 hr t (apw.2 ht))) ?_ 19 K ok
  exact bF XK (bD (aT h _ _)) (iP _ _) hLT (aQ D _ _) (fun p hp => by cases hp) (fun u hu => by cases hu) rfl (bC f ig)
 | false =>
  rcases jD (Fg D) 16 with hall | ⟨N, hN, h0, hn⟩
  ·unfold rQ at hr
   rw [apv.2 fun t ht => hall t (apw.1 ht)] at hr
   cases hr
  ·refine @Ej _ _ _ ig _ _ hdT _ _ (fun e => by cases e) N (iP _ _) (fun u hu => by cases hu) (fun t ht => step t (by omega) (h0 t ht)) ?_ 19 K ok
   exact bF (apv.1 afg N (apw.2 hN)) (bD (aT h _ _)) (iP _ _) hLT (aQ D _ _) (giv N false hN hn) (fun u hu => by cases hu) rfl (bC f ig)
def isV (D : FnD) : Value := .agg ((apx 16).map fun j => Value.bool ((Ct.fn D).i j)).toArray
theorem abI (hs : Sm D) (hok : ∀ b ∈ D.bs, made.okB b = true) : bG f [v] w (.tuple #[isV D, .bool (rQ D)]) := by
 have val : ∀ r x u, @VV (fnB w D (atB 0) (mF D)) x (als r) u -> u = .tuple #[isV D, .bool r] := fun r x u hu => by
  obtain ⟨vs, rfl, hv⟩ := hu
  match vs, hv with
  | [a, c], ⟨⟨us, ha, hus⟩, hc, _⟩ =>
   have hc : c = .bool r := hc
   rw [hc, ha]
   show Value.tuple #[_, _] = _
   congr 3
   unfold isV
   congr 2
   refine List.ext_getElem? fun j => ?_
   by_cases hj : j < 16
   ·have hb : nth (kH 3) j = some (.xe [(nm 3 j, 1)]) := by
     rw [aN]
     unfold kH
     rw [apC, apz hj]
     rfl
    obtain ⟨u, hu, hv⟩ := ak.nth hus hb
    rw [hu, apC, apz hj]
    have hv : u = .bool (decide (aF (aK D (atB 0) (mF D)) (nm 3 j) = 1) || false) := hv
    rw [hv, Yl h (b := 3) (G := fun j => b2i ((Ct.fn D).i j)) rfl hj, made.eG, Bool.or_false]
    rfl
   ·have hl : us.length = 16 := by have := hus.len; simp [kH] at this; omega
    rw [apH (by omega), apH (by simp; omega)]
 have rig : ∀ r, rQ D = r -> jT Tryz.prog (dH iq bW (adZ (if r then .exit 4 else .ret) (if r then sNT else sRT))) (fnB w D (atB 0) (mF D)) := fun r hr =>
  fK je (aT h _ _) (rows_ok fun K ok p hp => by
   simp only [apB, apy, or_false] at hp
   rcases hp with rfl | rfl
   ·exact ⟨F, Tryz.func34, fun c hc => iM XD (outer h hs hok K ok) hc⟩
   ·exact ⟨F, Tryz.func34, fun c hc => iM aan (last h hs hr K ok) hc⟩)
 cases hr : rQ D with
 | true => exact jH h anM (rig true hr) (zS h hs) (aQ D _ _) (fun p hp => by cases hp) (fun r x hx => val true r x hx)
 | false => exact jH h vF (rig false hr) (zS h hs) (aQ D _ _) (fun p hp => by cases hp) (fun r x hx => val false r x hx)
end
end twos
namespace check
open Go.RowKit Am
noncomputable def f : FuncId := 21
def jK (D : FnD) : Int := if many.iV D then 4 else if !made.kV D then 8 else if !twos.rQ D then 12 else 0
def aoZ (r : Bool) : V := .t [.g (apu 16 .top), .s (.bool r)]
noncomputable def lib (l : List (FuncId × V)) : Know -> aS := fun _ => Jp (l.map fun p => kU p.1 [.g bT] p.2)
noncomputable def rL (b : Bool) : FuncId × V := (many.fA, V.s (.bool b))
noncomputable def rM (b : Bool) : FuncId × V := (made.f, V.s (.bool b))
noncomputable def rT (b : Bool) : FuncId × V := (twos.f, aoZ b)
noncomputable def run (l : List (FuncId × V)) (n : Int) : Lf -> Bool := kX (dH (lib l) bW aZ) f eU [] [] (fun _ => V.s (.int .i64 n)) [.g bT]
noncomputable def L0 : Lf := Lf.of (fJ ++ [])
theorem amE : aJ (run [rL true] 4) .leaf L0 = true := by kernel_rfl
theorem alZ : aJ (run [rL false, rM false] 8) .leaf L0 = true := by kernel_rfl
theorem abv : aJ (run [rL false, rM true, rT false] 12) .leaf L0 = true := by kernel_rfl
theorem alC : aJ (run [rL false, rM true, rT true] 0) .leaf L0 = true := by kernel_rfl
theorem xU {D : FnD} (h : many.iV D = false) : D.ls.length <= 16 /\ D.bs.length <= 24 /\ ∀ b ∈ D.bs, b.st.length <= 24 := by
 unfold many.iV at h
 simp only [Bool.or_eq_false_iff, decide_eq_false_iff_not, Bool.not_eq_false'] at h
 obtain ⟨h1, h2, h3⟩ := h
 exact ⟨by omega, by omega, fun b hb => of_decide_eq_true (apv.1 h3 b hb)⟩
theorem LP {D : FnD} (h : made.kV D = true) : ∀ b ∈ D.bs, made.okB b = true := by
 unfold made.kV at h
 simp only [apJ] at h
 exact apv.1 h.2.2.1
section
variable {w : World} {v : Value} {D : FnD} (h : aV w v D)
include h
theorem aal (hs : many.iV D = false) (hm : made.kV D = true) : twos.Sm D := by
 obtain ⟨_, h2, h3⟩ := xU hs
 refine ⟨h2, fun b hb => ⟨h3 b hb, ?_⟩⟩
 have ok := LP hm b hb
 unfold made.okB at ok
 rw [apJ] at ok
 exact F8 (by rw [<- (h.blk b hb).EU.len]; rfl) ok.2
theorem a97 {q : At} {m : List Int} {l : List (FuncId × V)} (hl : ∀ p ∈ l, dG Tryz.prog p.1 /\ ∃ u, (∀ (b0 : Base) r, @VV b0 r p.2 u) /\ ∀ w', aV w' v D -> bG p.1 [v] w' u) (K : Know) (ok : aG K (fnB w D q m).rho (fnB w D q m).sig) : @Sound ((fnB w D q m).aH K ok) Tryz.prog (lib l K) :=
 @jL ((fnB w D q m).aH K ok) _ _ fun o ho => by
  obtain ⟨p, hp, rfl⟩ := apE.1 ho
  obtain ⟨h1, u, h2, h3⟩ := hl p hp
  exact VY h h1 h2 q m h3 K ok
theorem a6F : bG f [v] w (.int .i64 (jK D)) := by
 have L0h : L0.Holds (aF (aK D (atB 0) [])) (fun _ => []) := lG h (q := atB 0) (gX (by omega)) (iv := []) (m1 := []) (m2 := []) trivial _
 have pL : ∀ b, many.iV D = b -> dG Tryz.prog (rL b).1 /\ ∃ u, (∀ (b0 : Base) r, @VV b0 r (rL b).2 u) /\ ∀ w', aV w' v D -> bG (rL b).1 [v] w' u := fun b e => ⟨⟨_, Tryz.func32, by kernel_rfl, by kernel_rfl⟩, .bool b, fun _ _ => rfl, fun w' hw => e ▸ many.a8B hw⟩
 have pM : ∀ b, many.iV D = false -> made.kV D = b -> dG Tryz.prog (rM b).1 /\ ∃ u, (∀ (b0 : Base) r, @VV b0 r (rM b).2 u) /\ ∀ w', aV w' v D -> bG (rM b).1 [v] w' u := fun b e0 e => ⟨⟨_, Tryz.func33, by kernel_rfl, by kernel_rfl⟩, .bool b, fun _ _ => rfl, fun w' hw => e ▸ (by
  obtain ⟨s1, s2, s3⟩ := xU e0
  exact made.afP hw s1 s2 s3)⟩
 have pT : ∀ b, many.iV D = false -> made.kV D = true -> twos.rQ D = b -> dG Tryz.prog (rT b).1 /\ ∃ u, (∀ (b0 : Base) r, @VV b0 r (rT b).2 u) /\ ∀ w', aV w' v D -> bG (rT b).1 [v] w' u := fun b e0 e1 e => ⟨⟨_, Tryz.func34, by kernel_rfl, by kernel_rfl⟩, .tuple #[twos.isV D, .bool b], fun b0 r => ⟨[twos.isV D, .bool b], rfl, ⟨_, rfl, ⟨rfl, rfl, rfl, rfl, rfl, rfl, rfl, rfl, rfl, rfl, rfl, rfl, rfl, rfl, rfl, rfl, trivial⟩⟩, rfl, trivial⟩, fun w' hw => e ▸ twos.abI hw (aal hw e0 e1) (LP e1)⟩
 have go : ∀ {l : List (FuncId × V)} {n : Int}, aJ (run l n) .leaf L0 = true -> (∀ p ∈ l, dG Tryz.prog p.1 /\ ∃ u, (∀ (b0 : Base) r, @VV b0 r p.2 u) /\ ∀ w', aV w' v D -> bG p.1 [v] w' u) -> bG f [v] w (.int .i64 n) := fun {l n} hr hl =>
  jH h hr (fK (a97 h hl) (aT h _ _) oU) L0h (aQ D _ _) (fun p hp => by cases hp) (fun r x hx => hx)
 unfold jK
 cases e0 : many.iV D with
 | true => exact go amE (fun p hp => by obtain rfl := apI.1 hp; exact pL true e0)
 | false =>
  cases e1 : made.kV D with
  | false => exact go alZ (fun p hp => by
    simp only [apB, apy, or_false] at hp
    rcases hp with rfl | rfl
    ·exact pL false e0
    ·exact pM false e0 e1)
  | true =>
   cases e2 : twos.rQ D with
   | false => exact go abv (fun p hp => by
     simp only [apB, apy, or_false] at hp
     rcases hp with rfl | rfl | rfl
     ·exact pL false e0
     ·exact pM true e0 e1
     ·exact pT false e0 e1 e2)
   | true => exact go alC (fun p hp => by
     simp only [apB, apy, or_false] at hp
     rcases hp with rfl | rfl | rfl
     ·exact pL false e0
     ·exact pM true e0 e1
     ·exact pT true e0 e1 e2)
end
end check
namespace Am
open Go.RowKit
noncomputable section
def adI (R : Rig) (f : FuncId) (fx : Fx) (giv : List (E × Bool)) (es : List E) (g : List Bool -> V) (args : List A) (L : Lf) : Bool :=
 @N9 (L.jq fx) giv || Option.rec false (fun bs => alF (g bs) (@rC (L.jq fx) R.ty R.fn (R.lib (L.jq fx)) R.tb (R.loops (L.jq fx)) R.n R.d f (args.map L.nA) ⟨[], 0⟩ 0)) (@xq (L.jq fx) es)
theorem a0g {P : Program} {R : Rig} {f : FuncId} {b : Base} {w : World} (hnb : b.nb <= w.heap.size) (hg : ∀ k, k < b.nb -> w.heap[k]? = b.g k) (hR : jT P R b) {L0 : Lf} {hs : HT} {fx : Fx} {giv : List (E × Bool)} {es : List E} {g : List Bool -> V} {args : List A} {vs : List Value}
  (h0 : L0.Holds b.rho b.sig) (hf : vT fx b.rho) (has : ∀ p ∈ giv, p.1.num b.rho = p.2) (ha : ak (@VA b r0) args vs) (hrun : aJ (adI R f fx giv es g args) hs L0 = true) :
  Calls P f vs.toArray w fun x w' => ∃ u r, x = .returned u /\ @VV b r (g (es.map (E.num b.rho))) u /\ Below w.heap.size w w' := by
 obtain ⟨L, hLh, ht⟩ := oO hrun h0
 unfold adI at ht
 rw [Bool.or_eq_true] at ht
 let bL : Base := b.aH (L.jq fx) (Lf.okX hLh hf)
 rcases ht with ht | ht
 ·rw [@Et bL giv has] at ht
  cases ht
 ·cases ha' : @xq (L.jq fx) es with
  | none => rw [ha'] at ht; cases ht
  | some bs =>
   rw [ha'] at ht
   obtain ⟨h', hr⟩ := a1J ht
   have e : es.map (E.num b.rho) = bs := @zT bL _ _ ha'
   rw [e]
   exact @iC bL P w hnb hg _ (hR.sound _ _) f _ _ (@Lf.yh bL L r0 hLh _ _ ha) _ h' hr
end
end Am
namespace far
open Go.RowKit Am
noncomputable def f : FuncId := 106
def uy (ns : Nat -> Int) (c : Nat) : Bool := (apx 16).any fun j => decide (c < j + 1) && !decide (ns j < 1)
def akl : E := (apx 16).foldr (fun (j : Nat) (e : E) => .or (.and (.lt 0 ((j : Int) + 1)) (.not (.lt (1 + j) 1))) e) (.not (.zero []))
def chain : Nat -> Nat -> HT
 | 0, _ => .leaf
 | n + 1, j => .on (1 + j) 1 (chain n (j + 1)) .leaf
def tree : HT := (apx 16).foldr (fun (k : Nat) (t : HT) => .on 0 ((k : Int) + 2) (chain (15 - k) (k + 1)) t) .leaf
def args : List A := [.g ((apx 16).map fun j => .xi .i64 (1 + j)), .s (.xi .i64 0)]
noncomputable def L0 : Lf := Lf.of ((1, 16) :: apu 16 twos.Jl)
noncomputable def run : Lf -> Bool := adI (dH iq Tabs.nought aZ) f ⟨[], xZ.nought⟩ [] [akl] (fun bs => V.s (.bool (bs.headD false))) args
theorem qF : aJ run tree L0 = true := by kernel_rfl
theorem aiB (ns : Nat -> Int) (hn : ∀ j, -9223372036854775808 <= ns j /\ ns j <= 9223372036854775807) (c : Nat) (h1 : 1 <= c) (h16 : c <= 16) (w : World) :
  bG f [.agg ((apx 16).map fun j => Value.int .i64 (ns j)).toArray, .int .i64 c] w (.bool (uy ns c)) := by
 let e : Env := ⟨w, (c : Int) :: nG ns, []⟩
 have rn : ∀ j, j < 16 -> aF ((c : Int) :: nG ns) (1 + j) = ns j := fun j hj => by
  have := Gf [ns] [] 0 j ns rfl hj
  simp only [bU, apF, Nat.mul_zero, Nat.zero_add] at this
  rw [show (c : Int) :: nG ns = [(c : Int)] ++ nG ns from rfl, kC (n := 1) rfl]
  exact this
 have hL : L0.Holds e.b.rho e.b.sig := Lf.adx fun i p hp => by
  have hall : ak InI ((1, 16) :: apu 16 twos.Jl) ((c : Int) :: nG ns) := ⟨⟨by show (1 : Int) <= c; omega, by show (c : Int) <= 16; omega⟩, twos.qY hn⟩
  obtain ⟨x, hx, hi⟩ := ak.nth hall (n := i) (x := p) (by rw [aN]; exact hp)
  have : aF ((c : Int) :: nG ns) i = x := by unfold aF; rw [List.getD_eq_getElem?_getD, hx]; rfl
  show p.1 <= aF ((c : Int) :: nG ns) i /\ aF ((c : Int) :: nG ns) i <= p.2
  rw [this]
  exact hi
 have ha : ak (@VA e.b r0) args [.agg ((apx 16).map fun j => Value.int .i64 (ns j)).toArray, .int .i64 c] := by
  refine ⟨⟨_, rfl, fZ (by simp) fun j x u hx hu => ?_⟩, rfl, trivial⟩
  have hj : j < 16 := by have := (apD.1 hu).1; simpa using this
  rw [apC, apz hj] at hx hu
  cases hx
  cases hu
  show Value.int .i64 _ = .int .i64 (aF ((c : Int) :: nG ns) (1 + j))
  rw [rn j hj]
 have hE : akl.num e.b.rho = uy ns c := by
  show akl.num (aF ((c : Int) :: nG ns)) = _
  have e0 : aF ((c : Int) :: nG ns) 0 = c := rfl
  have ej : ∀ j : Nat, (E.and (.lt 0 ((j : Int) + 1)) (.not (.lt (1 + j) 1))).num (aF ((c : Int) :: nG ns)) = (decide ((c : Int) < (j : Int) + 1) && !decide (aF ((c : Int) :: nG ns) (1 + j) < 1)) := fun j => rfl
  have key : ∀ l : List Nat, (∀ j ∈ l, j < 16) -> ((l.foldr (fun (j : Nat) (e : E) => E.or (.and (.lt 0 ((j : Int) + 1)) (.not (.lt (1 + j) 1))) e) (.not (.zero []))).num (aF ((c : Int) :: nG ns))) = l.any fun j => decide (c < j + 1) && !decide (ns j < 1) := by
   intro l
   induction l with
   | nil => intro _; rfl
   | cons j l ih =>
    intro hl
    show ((E.and _ _).num _ || _) = _
    rw [ej, ih fun x hx => hl x (by simp [hx]), rn j (hl j (by simp)), List.any_cons]
    congr 2
    exact decide_eq_decide.2 (by omega)
  exact key _ fun j hj => apw.1 hj
 have hR : jT Tryz.prog (dH iq Tabs.nought aZ) e.b := bD (@bg.nought e.b)
 have := a0g (b := e.b) (w := w) (Nat.le_refl _) (fun _ _ => rfl) hR hL ⟨fun _ _ _ h => (by cases h), vX.nought _⟩ (fun p hp => by cases hp) ha qF
 refine bG.of (b := e.b) (v := V.s (.bool (uy ns c))) (fun r x hx => hx) ?_
 refine this.mono fun x w' ⟨u, r, e1, e2, e3⟩ => ⟨u, r, e1, ?_, e3⟩
 have e2 : u = .bool (akl.num e.b.rho) := e2
 show u = _
 rw [e2, hE]
end far
namespace Am
open Go.RowKit
structure a0D where
 dst : Nat
 l : Nat
 m : Nat
def jw : List S := apu 16 (.int .i64 0)
def apm (Z : List a0D) (T : List Cnt) : xZ := { eU.xt with ld := Z.map (fun t => (jw, t.l, t.m)) ++ T.map fun t => (bI t.src, t.l, t.m), sr := Z.map (fun t => (jw, t.l, t.m + 1, bI t.dst)) ++ T.map fun t => (bI t.src, t.l, t.m + 1, bI t.dst) }
def YL (Z : List a0D) (T : List Cnt) : Fx := ⟨Z.map (fun t => (t.m, 1, t.m + 1)) ++ T.map fun t => (t.m, 1, t.m + 1), apm Z T⟩
structure aaz (rho : Nat -> Int) (t : a0D) : Prop where
 d : ∀ j, j < 16 -> rho (nm t.dst j) = bump (fun _ => 0) (rho t.l) j
 m0 : rho t.m = 0
 m1 : rho (t.m + 1) = 1
theorem XH {j : Nat} {c : S} (h : jw[j]? = some c) : j < 16 /\ c = .int .i64 0 := by
 have hj : j < 16 := by have := (apD.1 h).1; simpa [jw] using this
 unfold jw at h
 rw [List.getElem?_replicate, if_pos hj] at h
 cases h
 exact ⟨hj, rfl⟩
theorem Wx {Z : List a0D} {T : List Cnt} {rho : Nat -> Int} (h0 : vT eU rho) (hz : ∀ t ∈ Z, aaz rho t) (h : ∀ t ∈ T, abr rho t) : vT (YL Z T) rho := by
 have hT := EW h0 h
 refine ⟨fun i c k hm => ?_, ⟨h0.xt.lf, h0.xt.sm, fun cs i m hm => ?_, fun cs i m ds hm => ?_, h0.xt.eq⟩⟩
 ·rcases apG.1 (show (i, c, k) ∈ Z.map (fun t => (t.m, (1 : Int), t.m + 1)) ++ T.map fun t => (t.m, (1 : Int), t.m + 1) from hm) with hm | hm
  ·obtain ⟨t, ht, e⟩ := apE.1 hm
   cases e
   have k := hz t ht
   rw [k.m0, k.m1]
   exact ⟨rfl, by decide, by decide⟩
  ·exact hT.ad i c k hm
 ·rcases apG.1 (show (cs, i, m) ∈ Z.map (fun t => (jw, t.l, t.m)) ++ T.map fun t => (bI t.src, t.l, t.m) from hm) with hm | hm
  ·obtain ⟨t, ht, e⟩ := apE.1 hm
   cases e
   intro j c hc _
   obtain ⟨_, rfl⟩ := XH hc
   show some (0 : Int) = some (rho t.m)
   rw [(hz t ht).m0]
  ·exact hT.xt.ld cs i m hm
 ·rcases apG.1 (show (cs, i, m, ds) ∈ Z.map (fun t => (jw, t.l, t.m + 1, bI t.dst)) ++ T.map fun t => (bI t.src, t.l, t.m + 1, bI t.dst) from hm) with hm | hm
  ·obtain ⟨t, ht, e⟩ := apE.1 hm
   cases e
   have k := hz t ht
   refine ⟨by simp [bI, jw], fun j c d hc hd => ?_⟩
   obtain ⟨hj, rfl⟩ := XH hc
   obtain ⟨_, rfl⟩ := qJ hd
   refine ⟨0, rfl, ?_⟩
   show some (rho (nm t.dst j)) = _
   rw [k.d j hj, k.m1]
   unfold bump
   by_cases e : rho t.l = (j : Int)
   ·rw [if_pos e, decide_eq_true e]; rfl
   ·rw [if_neg e, decide_eq_false e]; rfl
  ·exact hT.xt.sr cs i m ds hm
theorem JH {D : FnD} {q : At} {fs : List (Nat -> Int)} {tail : List Int} {t : a0D} {n N : Nat} (hn : fs.length = N) (h2 : fs[t.dst]? = some (bump (fun _ => 0) (aF (aK D q (bU fs ++ tail)) t.l))) (hm : t.m = 77 + (16 * N + n)) (e0 : aF tail n = 0) (e1 : aF tail (n + 1) = 1) : aaz (aF (aK D q (bU fs ++ tail))) t :=
 ⟨fun j hj => gV h2 hj, by rw [hm, Fa hn, e0], by rw [hm, show 77 + (16 * N + n) + 1 = 77 + (16 * N + (n + 1)) by omega, Fa hn, e1]⟩
end Am
namespace occurs
open Go.RowKit Am
noncomputable def f : FuncId := 79
def Z : List a0D := [⟨0, 49, 189⟩, ⟨1, 46, 191⟩, ⟨2, 25, 193⟩]
def T : List Cnt := [⟨2, 3, 41, 195⟩, ⟨2, 4, 33, 197⟩, ⟨4, 5, 38, 199⟩, ⟨2, 6, 38, 201⟩]
def o0 : Nat -> Int := fun _ => 0
def rows (st : List Value) : List (Nat -> Int) :=
 [bump o0 (ah st 25), bump o0 (ah st 22), bump o0 (ah st 1), bump (bump o0 (ah st 1)) (ah st 17), bump (bump o0 (ah st 1)) (ah st 9), bump (bump (bump o0 (ah st 1)) (ah st 9)) (ah st 14), bump (bump o0 (ah st 1)) (ah st 14)]
def more (st : List Value) : List Int := bU (rows st) ++ ([0, 1, 0, 1, 0, 1] ++ (twos.uV (bump o0 (ah st 1)) (ah st 17) ++ (twos.uV (bump o0 (ah st 1)) (ah st 9) ++ (twos.uV (bump (bump o0 (ah st 1)) (ah st 9)) (ah st 14) ++ twos.uV (bump o0 (ah st 1)) (ah st 14)))))
def out (bs : List Bool) : V := .a (.g (bif Nat.beq (twos.jy bs) 0 then jw else bI (twos.jy bs - 1)))
def op4 (k : Nat) (t : HT) : HT := .by k 1 t (.by k 2 t (.by k 3 t (.by k 4 t t)))
def sa0 : HT := .by 44 1 .leaf .leaf
def asT : HT := .on 28 1 .leaf (.on 28 2 (op4 31 sa0) (.on 28 3 (op4 31 (op4 36 sa0)) (.on 28 4 (op4 31 (op4 36 sa0)) (.on 28 6 (.by 28 5 sa0 sa0) .leaf))))
def stT : HT := .on 24 1 .leaf (.on 24 2 asT (.on 24 3 (op4 44 .leaf) (.on 24 4 sa0 (.on 24 5 (op4 44 .leaf) .leaf))))
noncomputable def L1 : Lf := twos.LI (Lf.of (fJ ++ []))
noncomputable def run : Lf -> Bool := kX (dH iq Tabs.nought aZ) f (YL Z T) [(a5K, true)] (twos.xQ.map twos.xM) out [.g lM]
theorem qF : aJ run stT L1 = true := by kernel_rfl
end occurs
end Go.Proofs.YtglmonlofejcgaaGreatDoor
