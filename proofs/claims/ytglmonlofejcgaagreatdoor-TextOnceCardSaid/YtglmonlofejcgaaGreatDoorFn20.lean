/- What the reference's block answers. What the reference's Made answers. -/
import Derived.Test.YtglmonlofejcgaaGreatDoorFn18
set_option maxRecDepth 100000
open List renaming mem_singleton → apu, not_mem_nil → apv, mem_cons → apw
open Bool renaming true_and → apx, and_true → apy, and_eq_true → apz
set_option linter.unusedVariables false
set_option linter.unusedSectionVars false
namespace Go.Proofs.YtglmonlofejcgaaGreatDoor
namespace block
open Go.RowKit Am
def mR (G : Nat -> Int) : List Int := bU [G] ++ []
def okS (D : FnD) (st : List Value) : Bool := dn.val st && !far.uy (twos.sK st) D.ls.length
def ag6 (nB : Int) (b : bK) : Bool := (decide (ah b.pre 0 = 3) || decide (ah b.pre 0 = 5)) || (decide (ah b.pre 7 < nB) && (!decide (ah b.pre 0 = 2) || (decide (ah b.pre 7 = ah b.pre 8) || decide (ah b.pre 8 < nB))))
def okB (D : FnD) (b : bK) : Bool := b.st.all (okS D) && (A8 b && (!far.uy (occJump.oV b) D.ls.length && ag6 D.bs.length b))
theorem aic (st : List Value) : ∀ j, -9223372036854775808 <= twos.sK st j /\ twos.sK st j <= 9223372036854775807 := fun j => by
 have := twos.ZN st j
 omega
theorem a3K (b : bK) (hl : b.ops.length <= 1000) : ∀ j, 0 <= occJump.oV b j /\ occJump.oV b j <= 1001 := fun j => by
 have h1 := occJump.afi b.ops
 have h2 := Dw (F := occJump.LC b) (l := ah b.post 0) (M := b.ops.length) h1 j
 have h3 := Dw (F := occurs.o0) (l := ah b.pre 3) (M := 0) (fun j => ⟨Int.le_refl _, Int.le_refl _⟩) j
 have h1 := h1 j
 unfold occJump.oV
 unfold occJump.LC at h2 |-
 split
 ·split
  ·omega
  ·omega
 ·split
  ·omega
  ·omega
section
variable {w : World} {v : Value} {D : FnD} (h : aV w v D)
include h
theorem a3M (q : At) (G : Nat -> Int) (hG : ∀ j, -9223372036854775808 <= G j /\ G j <= 9223372036854775807) (h1 : 1 <= D.ls.length) (h16 : D.ls.length <= 16) {b : Bool} (hb : far.uy G D.ls.length = b) (K : Know) (ok : aG K (fnB w D q (mR G)).rho (fnB w D q (mR G)).sig) : @Sound ((fnB w D q (mR G)).aH K ok) Tryz.prog (rF b) := by
 refine @dF ((fnB w D q (mR G)).aH K ok) _ far.f ⟨_, Tryz.func106, by kernel_rfl, by kernel_rfl⟩ _ _ (by rfl) [oZ G, .int .i64 D.ls.length] ⟨@vH ((fnB w D q (mR G)).aH K ok) 0 G (fun j hj => gV (D := D) (q := q) (fs := [G]) (tail := []) (b := 0) rfl hj) r0, rfl, trivial⟩ (.bool b) (fun r => vmB _ r b) fun w' hw => ?_
 rw [<- hb]
 exact far.aiB G hG D.ls.length h1 h16 w'
theorem Ea {F : FuncId} (hF : dG Tryz.prog F) {q : At} {G : Nat -> Int} {cs : List S} {u : Value} (hu : ak (@VA (fnB w D q (mR G)) r0) [.g cs] [u]) (h1 : [A.g cs].all A.rG = true) (ha : ∀ w', aV w' v D -> bG F [u] w' (oZ G)) (K : Know) (ok : aG K (fnB w D q (mR G)).rho (fnB w D q (mR G)).sig) : @Sound ((fnB w D q (mR G)).aH K ok) Tryz.prog (kU F [.g cs] (.a (.g (bI 0)))) := by
 refine @dF ((fnB w D q (mR G)).aH K ok) _ F hF _ _ h1 [u] hu (oZ G) (fun r => @vH ((fnB w D q (mR G)).aH K ok) 0 G (fun j hj => gV (D := D) (q := q) (fs := [G]) (tail := []) (b := 0) rfl hj) r) fun w' hw => ha w' (h.frz hw)
theorem inner {i : Nat} {q : At} {m : List Int} (hq : q.i = i) (hi : i < D.bs.length) (hB : D.bs.length <= 1000) (hS : (D.blk i).st.length <= 1000) (h1 : 1 <= D.ls.length) (h16 : D.ls.length <= 16) :
  ((D.blk i).st.all (okS D) = true -> ∀ K (ok : aG K (fnB w D q m).rho (fnB w D q m).sig), @aO ((fnB w D q m).aH K ok) Tryz.prog (row (.exit 0) sN K) mQ) /\
  ((D.blk i).st.all (okS D) = false -> ∀ K (ok : aG K (fnB w D q m).rho (fnB w D q m).sig), @aO ((fnB w D q m).aH K ok) Tryz.prog (row .ret sR K) mQ) := by
 let bk : Nat -> At := made.atS i
 let mk : Nat -> List Int := fun k => mR (twos.sK (D.stm i k))
 have fit : ∀ k, k <= (D.blk i).st.length -> Fits D (bk k) := fun k hk => iD ⟨by show i <= 1000; omega, by show k <= 1000; omega, Nat.zero_le _, Nat.zero_le _⟩
 have st : ∀ k, k <= (D.blk i).st.length -> ((Lf.of (fJ ++ [])).pin 6 1).Holds (aF (aK D (bk k) (mk k))) (fun _ => []) := fun k hk => (twos.fE h (bk k) (fit k hk) (mk k)).pin (i := 6) (c := 1) (show b2i (decide ((i : Int) < D.bs.length)) = 1 from (bY _).2 (by omega))
 have us : ∀ u ∈ [isU (.xi .i64 21) (.int .i64 0)], iI (fnB w D q m) (fnB w D (bk 0) (mk 0)) u := fun u hu => by
  obtain rfl := apu.1 hu
  exact dP fun r v hv => hv
 have tb : ∀ k, k < (D.blk i).st.length -> @bg (fnB w D (bk k) (mk k)) tbI := fun k hk => @aW (fnB w D (bk k) (mk k)) _ _ (aT h _ _) (@aW (fnB w D (bk k) (mk k)) _ _ (dM h (q := bk k) hi _) (DZ h (q := bk k) hi hk _))
 have pin1 : ∀ k, k < (D.blk i).st.length -> L1.Holds (aF (aK D (bk k) (mk k))) (fun _ => []) := fun k hk => (st k (by omega)).pin (i := 23) (c := 1) (show b2i (decide ((k : Int) < (D.blk i).st.length)) = 1 from (bY _).2 (by omega))
 have pV : ∀ k (hk : k < (D.blk i).st.length) b, dn.val (D.stm i k) = b -> ∀ K (ok : aG K (fnB w D (bk k) (mk k)).rho (fnB w D (bk k) (mk k)).sig), @Sound ((fnB w D (bk k) (mk k)).aH K ok) Tryz.prog (rV b) := fun k hk b e =>
  a4a h ⟨_, Tryz.func105, by kernel_rfl, by kernel_rfl⟩ Ro vmB (q := bk k) hi hk e _
 have pO : ∀ k (hk : k < (D.blk i).st.length), dn.val (D.stm i k) = true -> ∀ K (ok : aG K (fnB w D (bk k) (mk k)).rho (fnB w D (bk k) (mk k)).sig), @Sound ((fnB w D (bk k) (mk k)).aH K ok) Tryz.prog rO := fun k hk e =>
  Ea h ⟨_, Tryz.func79, by kernel_rfl, by kernel_rfl⟩ (occurs.a0J h (bk k) _ hi hk) (by rfl) fun w' hw => occurs.a1I hw hB hS hi hk e
 have pF : ∀ k (hk : k < (D.blk i).st.length) b, far.uy (twos.sK (D.stm i k)) D.ls.length = b -> ∀ K (ok : aG K (fnB w D (bk k) (mk k)).rho (fnB w D (bk k) (mk k)).sig), @Sound ((fnB w D (bk k) (mk k)).aH K ok) Tryz.prog (rF b) := fun k hk b e =>
  a3M h (bk k) _ (aic _) h1 h16 e
 have rg : ∀ k (hk : k < (D.blk i).st.length) (l : List aS), (∀ K (ok : aG K (fnB w D (bk k) (mk k)).rho (fnB w D (bk k) (mk k)).sig), ∀ o ∈ l, @Sound ((fnB w D (bk k) (mk k)).aH K ok) Tryz.prog o) -> jT Tryz.prog (dH (Gh l) tbI aZ) (fnB w D (bk k) (mk k)) := fun k hk l hl =>
  fK (fun K ok => @jL ((fnB w D (bk k) (mk k)).aH K ok) _ _ (hl K ok)) (tb k hk) oU
 have step' : ∀ k, k < (D.blk i).st.length -> okS D (D.stm i k) = true -> gZ Tryz.prog (fnB w D (bk k) (mk k)) (fnB w D (bk (k + 1)) (mk (k + 1))) mQ hd .normal hd := fun k hk hok => by
  unfold okS at hok
  rw [apz, Bool.not_eq_true'] at hok
  refine bF step (rg k hk _ fun K ok o ho => ?_) (bJ (bk k) (bk (k + 1)) rfl _ _) (pin1 k hk) (aQ D _ _) (fun p hp => by cases hp) (fun u hu => ?_) rfl (bC f mQ)
  ·simp only [apw, apv, or_false] at ho
   rcases ho with rfl | rfl | rfl
   ·exact pV k hk true hok.1 K ok
   ·exact pO k hk hok.1 K ok
   ·exact pF k hk false hok.2 K ok
  ·obtain rfl := apu.1 hu
   exact dP fun r v hv => hv
 have rg0 : ∀ k, jT Tryz.prog (dH (Gh []) (bW.app iQ) aZ) (fnB w D (bk k) (mk k)) := fun k =>
  fK (fun K ok => @jL ((fnB w D (bk k) (mk k)).aH K ok) _ _ fun o ho => by cases ho) (@aW (fnB w D (bk k) (mk k)) _ _ (aT h _ _) (dM h (q := bk k) hi _)) oU
 constructor
 ·intro hall K ok
  have hall := (iJ (D.blk i).st [] (okS D)).2 hall
  refine @dh _ _ (fun k => fnB w D (bk k) (mk k)) mQ _ _ hd _ _ (fun e => by cases e) (D.blk i).st.length (bJ q (bk 0) hq _ _) us (fun k hk => step' k hk (hall k hk)) ?_ 3 K ok
  refine bF stop (rg0 _) (bJ (bk (D.blk i).st.length) q hq.symm _ _) (L := L3) ?_ (aQ D _ _) (fun p hp => by cases hp) (fun u hu => by cases hu) rfl (bC f mQ)
  exact (st _ (Nat.le_refl _)).pin (i := 23) (c := 0) (show b2i (decide (((D.blk i).st.length : Int) < (D.blk i).st.length)) = 0 by rw [decide_eq_false (by omega)]; rfl)
 ·intro hbad K ok
  rcases jD (fun k => okS D (D.stm i k)) (D.blk i).st.length with hall | ⟨N, hN, h0, hn⟩
  ·rw [(iJ (D.blk i).st [] (okS D)).1 hall] at hbad
   cases hbad
  ·refine @dh _ _ (fun k => fnB w D (bk k) (mk k)) mQ _ _ hd _ _ (fun e => by cases e) N (bJ q (bk 0) hq _ _) us (fun k hk => step' k (by omega) (h0 k hk)) ?_ 3 K ok
   have hn : (dn.val (D.stm i N) && !far.uy (twos.sK (D.stm i N)) D.ls.length) = false := hn
   cases hv : dn.val (D.stm i N) with
   | false => exact bF adu (rg N hN _ fun K ok o ho => by obtain rfl := apu.1 ho; exact pV N hN false hv K ok) (bJ (bk N) q hq.symm _ _) (pin1 N hN) (aQ D _ _) (fun p hp => by cases hp) (fun u hu => by cases hu) rfl (bC f mQ)
   | true =>
    rw [hv, apx, Bool.not_eq_false'] at hn
    refine bF vF (rg N hN _ fun K ok o ho => ?_) (bJ (bk N) q hq.symm _ _) (pin1 N hN) (aQ D _ _) (fun p hp => by cases hp) (fun u hu => by cases hu) rfl (bC f mQ)
    simp only [apw, apv, or_false] at ho
    rcases ho with rfl | rfl | rfl
    ·exact pV N hN true hv K ok
    ·exact pO N hN hv K ok
    ·exact pF N hN true hn K ok
theorem amu (q : At) (m : List Int) : vT fxB (aF (aK D q m)) := by
 have h0 := aQ D q m
 refine ⟨fun i c j hh => (by cases hh), ⟨h0.xt.lf, h0.xt.sm, h0.xt.ld, h0.xt.sr, fun i j d hm => ?_⟩⟩
 rcases apw.1 (show (i, j, d) ∈ (16, 15, 74) :: eU.xt.eq from hm) with e | hm
 ·cases e
  exact (h0.xt.eq 15 16 74 (List.mem_cons_self ..)).trans ⟨fun e => e.symm, fun e => e.symm⟩
 ·exact h0.xt.eq i j d hm
theorem afb {i : Nat} (hi : i < D.bs.length) (m : List Int) : ak (@VA (fnB w D (atB i) m) r0) [.g bT, .g lJ] [v, .agg (D.blk i).cells.toArray] := by
 have hc := Rq h hi (atB i) rfl m
 refine ⟨xK h (atB i) m r0, ⟨_, rfl, fZ hc.len fun n x u hx hu => ?_⟩, trivial⟩
 obtain ⟨u', hu', e⟩ := ak.nth hc (n := n) (x := x) (by rw [aN]; exact hx)
 rw [hu] at hu'
 cases hu'
 exact e r0
theorem amr {i : Nat} (m : List Int) : tgE.num (aF (aK D (atB i) m)) = ag6 D.bs.length (D.blk i) := by
 have e8 : aF (aK D (atB i) m) 8 = ah (D.blk i).pre 0 := rfl
 have e72 : aF (aK D (atB i) m) 72 = b2i (decide (ah (D.blk i).pre 7 < D.bs.length)) := rfl
 have e73 : aF (aK D (atB i) m) 73 = b2i (decide (ah (D.blk i).pre 8 < D.bs.length)) := rfl
 have e74 : aF (aK D (atB i) m) 74 = b2i (decide (ah (D.blk i).pre 7 = ah (D.blk i).pre 8)) := rfl
 unfold ag6
 simp only [tgE, isE, E.num, List.all_cons, List.all_nil, apy, e8, e72, e73, e74, made.eG]
theorem a4y {i : Nat} (hi : i < D.bs.length) (hB : D.bs.length <= 1000) (hS : (D.blk i).st.length <= 1000) (h1 : 1 <= D.ls.length) (h16 : D.ls.length <= 16) : bG f [v, .agg (D.blk i).cells.toArray] w (.bool (okB D (D.blk i))) := by
 have hj := vC h hi
 let m : List Int := mR (occJump.oV (D.blk i))
 have inn := inner h (i := i) (q := atB i) (m := m) rfl hi hB hS h1 h16
 have hLB : LB.Holds (aF (aK D (atB i) m)) (fun _ => []) := (twos.fE h (atB i) (gX (by omega)) m).pin (i := 6) (c := 1) (show b2i (decide ((i : Int) < D.bs.length)) = 1 from (bY _).2 (by omega))
 have tb : @bg (fnB w D (atB i) m) (bW.app iQ) := @aW (fnB w D (atB i) m) _ _ (aT h _ _) (dM h (q := atB i) hi _)
 have go : ∀ {l : List aS} {x : X} {s1 : St} {es : List E} {g : List Bool -> V} {hs : HT} {u : Bool}, aJ (run l x s1 es g) hs LB = true -> (∀ K (ok : aG K (fnB w D (atB i) m).rho (fnB w D (atB i) m).sig), @aO ((fnB w D (atB i) m).aH K ok) Tryz.prog (row x s1 K) mQ) ->
   (∀ K (ok : aG K (fnB w D (atB i) m).rho (fnB w D (atB i) m).sig), ∀ o ∈ l, @Sound ((fnB w D (atB i) m).aH K ok) Tryz.prog o) -> g (es.map (E.num (aF (aK D (atB i) m)))) = V.s (.bool u) -> bG f [v, .agg (D.blk i).cells.toArray] w (.bool u) := fun {l x s1 es g hs u} hr hl ho e => by
  have hR : jT Tryz.prog (dH (Gh l) (bW.app iQ) fun K => dR [(f, row x s1 K)]) (fnB w D (atB i) m) :=
   fK (fun K ok => @jL ((fnB w D (atB i) m).aH K ok) _ _ (ho K ok)) tb (rows_ok (T := fun K => [(f, row x s1 K)]) fun K ok p hp => by
    obtain rfl := apu.1 hp
    exact ⟨F, Tryz.func77, fun c hc => iM tag (hl K ok) hc⟩)
  have := jl (b := fnB w D (atB i) m) (w := w) (Nat.le_refl _) (fun _ _ => rfl) hR hLB (amu h (atB i) m) (fun p hp => by cases hp) (afb h hi m) hr
  rw [show (fnB w D (atB i) m).rho = aF (aK D (atB i) m) from rfl, e] at this
  exact bG.of (b := fnB w D (atB i) m) (v := V.s (.bool u)) (fun r x hx => hx) this
 have pV : ∀ b, A8 (D.blk i) = b -> ∀ K (ok : aG K (fnB w D (atB i) m).rho (fnB w D (atB i) m).sig), @Sound ((fnB w D (atB i) m).aH K ok) Tryz.prog (rVJ b) := fun b e =>
  VF h ⟨_, Tryz.func107, by kernel_rfl, by kernel_rfl⟩ VZ vmB (q := atB i) hi e _
 have pO : A8 (D.blk i) = true -> ∀ K (ok : aG K (fnB w D (atB i) m).rho (fnB w D (atB i) m).sig), @Sound ((fnB w D (atB i) m).aH K ok) Tryz.prog rOJ := fun e =>
  Ea h ⟨_, Tryz.func82, by kernel_rfl, by kernel_rfl⟩ (occJump.a1j h (atB i) rfl _ hi) (by rfl) fun w' hw => occJump.Xh hw hi hB e
 have pF : A8 (D.blk i) = true -> ∀ b, far.uy (occJump.oV (D.blk i)) D.ls.length = b -> ∀ K (ok : aG K (fnB w D (atB i) m).rho (fnB w D (atB i) m).sig), @Sound ((fnB w D (atB i) m).aH K ok) Tryz.prog (rF b) := fun e b eb =>
  a3M h (atB i) _ (fun j => by
   have := a3K (D.blk i) (by have := F8 (fH hj) e; omega) j
   omega) h1 h16 eb
 unfold okB
 cases hs : (D.blk i).st.all (okS D) with
 | false => exact go aon (inn.2 hs) (fun K ok o ho => by cases ho) rfl
 | true =>
  rw [apx]
  have hl := inn.1 hs
  cases hv : A8 (D.blk i) with
  | false => exact go anf hl (fun K ok o ho => by obtain rfl := apu.1 ho; exact pV false hv K ok) rfl
  | true =>
   rw [apx]
   cases hf : far.uy (occJump.oV (D.blk i)) D.ls.length with
   | true => exact go aod hl (fun K ok o ho => by
     simp only [apw, apv, or_false] at ho
     rcases ho with rfl | rfl | rfl
     ·exact pV true hv K ok
     ·exact pO hv K ok
     ·exact pF hv true hf K ok) rfl
   | false => exact go aft hl (fun K ok o ho => by
     simp only [apw, apv, or_false] at ho
     rcases ho with rfl | rfl | rfl
     ·exact pV true hv K ok
     ·exact pO hv K ok
     ·exact pF hv false hf K ok) (by
     show V.s (.bool (tgE.num (aF (aK D (atB i) m)))) = _
     rw [amr h m]
     rfl)
end
end block
namespace madeR
open Go.RowKit Am
def guard (D : FnD) : Bool := decide (0 < D.ls.length) && (decide (0 < D.bs.length) && (decide (0 <= D.p) && (decide (D.p <= 8) && decide (D.p < D.ls.length))))
def vM (D : FnD) : Bool := !many.iV D && (guard D && (D.ls.all ng && (!head.Z5 D && D.bs.all (block.okB D))))
section
variable {w : World} {v : Value} {D : FnD} (h : aV w v D)
include h
theorem Ht (q : At) : guardE.num (aF (aK D q [])) = guard D := by
 show ((!decide ((D.ls.length : Int) < 1)) && ((!decide ((D.bs.length : Int) < 1)) && ((!decide (D.p < 0)) && (decide (D.p < 9) && (decide (b2i (decide (D.p < D.ls.length)) = 1) && true))))) = _
 unfold guard
 rw [apy, decide_eq_decide.2 (bY (D.p < D.ls.length)), <- decide_not, <- decide_not, <- decide_not]
 congr 1
 ·exact decide_eq_decide.2 (by omega)
 congr 1
 ·exact decide_eq_decide.2 (by omega)
 congr 1
 ·exact decide_eq_decide.2 (by omega)
 congr 1
 exact decide_eq_decide.2 (by omega)
theorem typs (hl : D.ls.length <= 1000) {b : Bool} (hb : D.ls.all ng = b) (K : Know) (ok : aG K (fnB w D (atT 0) []).rho (fnB w D (atT 0) []).sig) :
  @aO ((fnB w D (atT 0) []).aH K ok) Tryz.prog (rowT (if b then .exit 0 else .ret) (if b then sN else sR) K) ig := by
 have us : ∀ u ∈ [isU (.xi .i64 58) (.int .i64 0)], iI (fnB w D (atT 0) []) (fnB w D (atT 0) []) u := fun u hu => by
  obtain rfl := apu.1 hu
  exact dP fun r v hv => hv
 have hin : ∀ k, k < D.ls.length -> L1.Holds (aF (aK D (atT k) [])) (fun _ => []) := fun k hk => (twos.fE h (atT k) (KL (by omega)) []).pin (i := 60) (c := 1) (show b2i (decide ((k : Int) < D.ls.length)) = 1 from (bY _).2 (by omega))
 have htb : ∀ k, k < D.ls.length -> @bg (fnB w D (atT k) []) (bW.app Ub) := fun k hk => @aW (fnB w D (atT k) []) bW Ub (aT h _ _) (a2D h (q := atT k) hk _)
 have hok : ∀ k b, ng (D.typ k) = b -> ∀ p ∈ [(head.okN, b)], p.1.num (aF (aK D (atT k) [])) = p.2 := fun k b e p hp => by
  obtain rfl := apu.1 hp
  exact (JB (atT k) [] (e := IB) rfl).trans e
 have hstep : ∀ k, k < D.ls.length -> ng (D.typ k) = true -> gZ Tryz.prog (fnB w D (atT k) []) (fnB w D (atT (k + 1)) []) ig hdT .normal hdT := fun k hk e => by
  refine bF stepT (bD (htb k hk)) (bQ _ _ _ _) (hin k hk) (aQ D _ _) (hok k true e) (fun u hu => ?_) rfl (bC f ig)
  obtain rfl := apu.1 hu
  exact dP fun r v hv => hv
 have hend : gZ Tryz.prog (fnB w D (atT D.ls.length) []) (fnB w D (atT 0) []) ig hdT (.exit 0) sN :=
  bF XK (bD (aT h _ _)) (bQ _ _ _ _) (L := L3) ((twos.fE h (atT D.ls.length) (KL (by omega)) []).pin (i := 60) (c := 0) (show b2i (decide ((D.ls.length : Int) < D.ls.length)) = 0 by rw [decide_eq_false (by omega)]; rfl)) (aQ D _ _) (fun p hp => by cases hp) (fun u hu => by cases hu) rfl (bC f ig)
 cases b with
 | true =>
  have hall := (iJ D.ls [] ng).2 hb
  exact @dh _ _ (fun k => fnB w D (atT k) []) ig _ _ hdT _ _ (fun e => by cases e) D.ls.length (bQ _ _ [] []) us (fun k hk => hstep k hk (hall k hk)) hend 5 K ok
 | false =>
  rcases jD (fun i => ng (D.typ i)) D.ls.length with hall | ⟨N, hN, h0, hn⟩
  ·rw [(iJ D.ls [] ng).1 hall] at hb
   cases hb
  ·exact @dh _ _ (fun k => fnB w D (atT k) []) ig _ _ hdT _ _ (fun e => by cases e) N (bQ _ _ [] []) us (fun k hk => hstep k (by omega) (h0 k hk)) (bF afg (bD (htb N hN)) (bQ _ _ _ _) (hin N hN) (aQ D _ _) (hok N false hn) (fun u hu => by cases hu) rfl (bC f ig)) 5 K ok
theorem blks (hB : D.bs.length <= 1000) (hS : ∀ b ∈ D.bs, b.st.length <= 1000) (h1 : 1 <= D.ls.length) (h16 : D.ls.length <= 16) {b : Bool} (hb : D.bs.all (block.okB D) = b) (K : Know) (ok : aG K (fnB w D (atB 0) []).rho (fnB w D (atB 0) []).sig) :
  @aO ((fnB w D (atB 0) []).aH K ok) Tryz.prog (rowB (if b then .exit 2 else .ret) (if b then sN else sR) K) uD := by
 have us : ∀ u ∈ [isU (.xi .i64 4) (.int .i64 0)], iI (fnB w D (atB 0) []) (fnB w D (atB 0) []) u := fun u hu => by
  obtain rfl := apu.1 hu
  exact dP fun r v hv => hv
 have mem : ∀ i, i < D.bs.length -> D.blk i ∈ D.bs := fun i hi => by
  unfold FnD.blk
  rw [List.getD_eq_getElem?_getD, List.getElem?_eq_getElem hi]
  exact List.getElem_mem hi
 have hin : ∀ k, k < D.bs.length -> LB1.Holds (aF (aK D (atB k) [])) (fun _ => []) := fun k hk => (twos.fE h (atB k) (gX (by omega)) []).pin (i := 6) (c := 1) (show b2i (decide ((k : Int) < D.bs.length)) = 1 from (bY _).2 (by omega))
 have rg : ∀ k, k < D.bs.length -> ∀ b, block.okB D (D.blk k) = b -> jT Tryz.prog (dH (rB b) (bW.app iQ) aZ) (fnB w D (atB k) []) := fun k hk b e => by
  refine fK (fun K ok => ?_) (@aW (fnB w D (atB k) []) bW iQ (aT h _ _) (dM h (q := atB k) hk _)) oU
  refine @dF ((fnB w D (atB k) []).aH K ok) _ block.f ⟨_, Tryz.func77, by kernel_rfl, by kernel_rfl⟩ _ _ (by rfl) [v, .agg (D.blk k).cells.toArray] (block.afb h hk []) (.bool b) (fun r => vmB _ r b) fun w' hw => ?_
  rw [<- e]
  exact block.a4y (h.frz hw) hk hB (hS _ (mem k hk)) h1 h16
 have hstep : ∀ k, k < D.bs.length -> block.okB D (D.blk k) = true -> gZ Tryz.prog (fnB w D (atB k) []) (fnB w D (atB (k + 1)) []) uD hdB .normal hdB := fun k hk e => by
  refine bF aha (rg k hk true e) (bQ _ _ _ _) (hin k hk) (aQ D _ _) (fun p hp => by cases hp) (fun u hu => ?_) rfl (bC f uD)
  obtain rfl := apu.1 hu
  exact dP fun r v hv => hv
 have hend : gZ Tryz.prog (fnB w D (atB D.bs.length) []) (fnB w D (atB 0) []) uD hdB (.exit 2) sN :=
  bF aop (bD (aT h _ _)) (bQ _ _ _ _) (L := LB0) ((twos.fE h (atB D.bs.length) (gX (by omega)) []).pin (i := 6) (c := 0) (show b2i (decide ((D.bs.length : Int) < D.bs.length)) = 0 by rw [decide_eq_false (by omega)]; rfl)) (aQ D _ _) (fun p hp => by cases hp) (fun u hu => by cases hu) rfl (bC f uD)
 cases b with
 | true =>
  have hall := (iJ D.bs b0 (block.okB D)).2 hb
  exact @dh _ _ (fun k => fnB w D (atB k) []) uD _ _ hdB _ _ (fun e => by cases e) D.bs.length (bQ _ _ [] []) us (fun k hk => hstep k hk (hall k hk)) hend 12 K ok
 | false =>
  rcases jD (fun i => block.okB D (D.blk i)) D.bs.length with hall | ⟨N, hN, h0, hn⟩
  ·rw [(iJ D.bs b0 (block.okB D)).1 hall] at hb
   cases hb
  ·exact @dh _ _ (fun k => fnB w D (atB k) []) uD _ _ hdB _ _ (fun e => by cases e) N (bQ _ _ [] []) us (fun k hk => hstep k (by omega) (h0 k hk)) (bF alo (rg N hN false hn) (bQ _ _ _ _) (hin N hN) (aQ D _ _) (fun p hp => by cases hp) (fun u hu => by cases hu) rfl (bC f uD)) 12 K ok
theorem a5j : bG f [v] w (.bool (vM D)) := by
 have hst := twos.fE h (atB 0) (gX (by omega)) []
 have lib : ∀ b, many.iV D = b -> ∀ K (ok : aG K (fnB w D (atB 0) []).rho (fnB w D (atB 0) []).sig), @Sound ((fnB w D (atB 0) []).aH K ok) Tryz.prog (aoo b K) := fun b e =>
  VY h ⟨_, Tryz.func41, by kernel_rfl, by kernel_rfl⟩ (fun b0 r => vmB b0 r b) (atB 0) [] fun w' hw => e ▸ many.WU hw
 have go : ∀ {m : Bool} {tb : Tabs} {rows : Know -> List (FuncId × Loops)} {giv : List (E × Bool)} {g : List Bool -> V} {hs : HT} {L : Lf} {u : Bool}, aJ (run m tb rows giv [] g) hs L = true -> many.iV D = m -> @bg (fnB w D (atB 0) []) tb -> L.Holds (aF (aK D (atB 0) [])) (fun _ => []) ->
   (∀ K (ok : aG K (fnB w D (atB 0) []).rho (fnB w D (atB 0) []).sig), ∀ p ∈ rows K, ∃ F : Func, Tryz.prog.funcs[p.1]? = some F /\ ∀ c, F.body = some c -> Loops.ok (@aO ((fnB w D (atB 0) []).aH K ok) Tryz.prog p.2) c) -> (∀ p ∈ giv, p.1.num (aF (aK D (atB 0) [])) = p.2) -> g [] = V.s (.bool u) -> bG f [v] w (.bool u) := fun {m tb rows giv g hs L u} hr hm ht hL hrows hg e =>
  jH h hr (fK (lib m hm) ht (rows_ok hrows)) hL (aQ D _ _) hg (fun r x hx => by
   have hx : @VV (fnB w D (atB 0) []) r (g []) x := hx
   rw [e] at hx
   exact hx)
 unfold vM
 cases hm : many.iV D with
 | true => exact go anI hm (aT h _ _) hst (fun K ok p hp => by cases hp) (fun p hp => by cases hp) rfl
 | false =>
  obtain ⟨s1, s2, s3⟩ := check.xU hm
  rw [Bool.not_false, apx]
  cases hg : guard D with
  | false =>
   refine go anQ hm (aT h _ _) hst (fun K ok p hp => by cases hp) (fun p hp => ?_) rfl
   obtain rfl := apu.1 hp
   exact (Ht h _).trans hg
  | true =>
   have hg' := hg
   unfold guard at hg'
   simp only [apz, decide_eq_true_eq] at hg'
   obtain ⟨g1, g2, g3, g4, g5⟩ := hg'
   have hLS : LS.Holds (aF (aK D (atB 0) [])) (fun _ => []) := ((((hst.lo (i := 2) (c := 1) (show (1 : Int) <= (D.ls.length : Int) by omega)).lo (i := 3) (c := 1) (show (1 : Int) <= (D.bs.length : Int) by omega)).lo (i := 0) (c := 0) g3).hi (i := 0) (c := 8) g4).pin (i := 76) (c := 1) ((bY _).2 g5)
   have rT : ∀ b, D.ls.all ng = b -> ∀ K (ok : aG K (fnB w D (atB 0) []).rho (fnB w D (atB 0) []).sig), ∃ F : Func, Tryz.prog.funcs[f]? = some F /\ ∀ c, F.body = some c -> Loops.ok (@aO ((fnB w D (atB 0) []).aH K ok) Tryz.prog (rowT (if b then .exit 0 else .ret) (if b then sN else sR) K)) c := fun b e K ok =>
    ⟨F, Tryz.func42, fun c hc => iM aan (typs h (by omega) e K ok) hc⟩
   have rBk : ∀ b, D.bs.all (block.okB D) = b -> ∀ K (ok : aG K (fnB w D (atB 0) []).rho (fnB w D (atB 0) []).sig), ∃ F : Func, Tryz.prog.funcs[f]? = some F /\ ∀ c, F.body = some c -> Loops.ok (@aO ((fnB w D (atB 0) []).aH K ok) Tryz.prog (rowB (if b then .exit 2 else .ret) (if b then sN else sR) K)) c := fun b e K ok =>
    ⟨F, Tryz.func42, fun c hc => iM amm (blks h (by omega) (fun x hx => by have := s3 x hx; omega) (by omega) s1 e K ok) hc⟩
   rw [apx]
   cases ht : D.ls.all ng with
   | false => exact go aft hm (aT h _ _) hLS (fun K ok p hp => by obtain rfl := apu.1 hp; exact rT false ht K ok) (fun p hp => by cases hp) rfl
   | true =>
    have t0 : @bg (fnB w D (atB 0) []) (bW.app Ya) := @aW (fnB w D (atB 0) []) bW Ya (aT h _ _) (a1Q h (atB 0) rfl g1 [])
    have gv : ∀ b, (!head.Z5 D) = !b -> ∀ p ∈ [(head.okN, true), (isE 62 0, !b)], p.1.num (aF (aK D (atB 0) [])) = p.2 := fun b e p hp => by
     simp only [apw, apv, or_false] at hp
     rcases hp with rfl | rfl
     ·exact (JB (atT 0) [] (e := IB) rfl).trans ((iJ D.ls [] ng).2 ht 0 g1)
     ·show (decide (ah (D.typ 0) 1 = 0) && true) = !b
      rw [apy, <- e]
      unfold head.Z5
      rw [Bool.not_not]
    rw [apx]
    cases hp : head.Z5 D with
    | true => exact go anR hm t0 hLS (fun K ok p hp => by obtain rfl := apu.1 hp; exact rT true ht K ok) (gv true (by rw [hp])) rfl
    | false =>
     rw [Bool.not_false, apx]
     cases hb : D.bs.all (block.okB D) with
     | false => exact go anb hm t0 hLS (fun K ok p hp => by
       simp only [apw, apv, or_false] at hp
       rcases hp with rfl | rfl
       ·exact rT true ht K ok
       ·exact rBk false hb K ok) (gv false (by rw [hp])) rfl
     | true => exact go qF hm t0 hLS (fun K ok p hp => by
       simp only [apw, apv, or_false] at hp
       rcases hp with rfl | rfl
       ·exact rT true ht K ok
       ·exact rBk true hb K ok) (gv false (by rw [hp])) rfl
end
end madeR
end Go.Proofs.YtglmonlofejcgaaGreatDoor
