/- What the reference's Made answers. -/
import Derived.Test.YtglmonlofejcgaaGreatDoorFn19
set_option linter.unusedVariables false
set_option linter.unusedSectionVars false
set_option maxRecDepth 100000
namespace Go.Proofs.YtglmonlofejcgaaGreatDoor.madeR
open Go.RowKit Am
def guard (D : FnD) : Bool := decide (0 < D.ls.length) && (decide (0 < D.bs.length) && (decide (0 <= D.p) && (decide (D.p <= 8) && decide (D.p < D.ls.length))))
def uF (D : FnD) : Bool := !many.iO D && (guard D && (D.ls.all ou && (!head.Uk D && D.bs.all (block.okB D))))
section
variable {w : World} {v : Value} {D : FnD} (h : aT w v D)
include h
theorem EO (q : At) : guardE.num (aF (aJ D q [])) = guard D := by
 show ((!decide ((D.ls.length : Int) < 1)) && ((!decide ((D.bs.length : Int) < 1)) && ((!decide (D.p < 0)) && (decide (D.p < 9) && (decide (b2i (decide (D.p < D.ls.length)) = 1) && true))))) = _
 unfold guard
 rw [Bool.and_true, decide_eq_decide.2 (bY (D.p < D.ls.length)), <- decide_not, <- decide_not, <- decide_not]
 congr 1
 ·exact decide_eq_decide.2 (by omega)
 congr 1
 ·exact decide_eq_decide.2 (by omega)
 congr 1
 ·exact decide_eq_decide.2 (by omega)
 congr 1
 exact decide_eq_decide.2 (by omega)
theorem typs (hl : D.ls.length <= 1000) {b : Bool} (hb : D.ls.all ou = b) (K : Know) (ok : aG K (fnB w D (atT 0) []).rho (fnB w D (atT 0) []).sig) :
  @aO ((fnB w D (atT 0) []).aH K ok) Tryz.prog (rowT (if b then .exit 0 else .ret) (if b then sN else sR) K) gQ := by
 have us : ∀ u ∈ [isU (.xi .i64 58) (.int .i64 0)], ig (fnB w D (atT 0) []) (fnB w D (atT 0) []) u := fun u hu => by
  obtain rfl := List.mem_singleton.1 hu
  exact dN fun r v hv => hv
 have hin : ∀ k, k < D.ls.length -> L1.Holds (aF (aJ D (atT k) [])) (fun _ => []) := fun k hk => (twos.eH h (atT k) (IL (by omega)) []).pin (i := 60) (c := 1) (show b2i (decide ((k : Int) < D.ls.length)) = 1 from (bY _).2 (by omega))
 have htb : ∀ k, k < D.ls.length -> @aZ (fnB w D (atT k) []) (bW.app RH) := fun k hk => @aV (fnB w D (atT k) []) bW RH (aU h _ _) (Zz h (q := atT k) hk _)
 have hok : ∀ k b, ou (D.typ k) = b -> ∀ p ∈ [(head.okN, b)], p.1.num (aF (aJ D (atT k) [])) = p.2 := fun k b e p hp => by
  obtain rfl := List.mem_singleton.1 hp
  exact (Iy (atT k) [] (e := GN) rfl).trans e
 have hstep : ∀ k, k < D.ls.length -> ou (D.typ k) = true -> gJ Tryz.prog (fnB w D (atT k) []) (fnB w D (atT (k + 1)) []) gQ hdT .normal hdT := fun k hk e => by
  refine bG stepT (bg (htb k hk)) (bM _ _ _ _) (hin k hk) (aQ D _ _) (hok k true e) (fun u hu => ?_) rfl (bf f gQ)
  obtain rfl := List.mem_singleton.1 hu
  exact dN fun r v hv => hv
 have hend : gJ Tryz.prog (fnB w D (atT D.ls.length) []) (fnB w D (atT 0) []) gQ hdT (.exit 0) sN :=
  bG WG (bg (aU h _ _)) (bM _ _ _ _) (L := L3) ((twos.eH h (atT D.ls.length) (IL (by omega)) []).pin (i := 60) (c := 0) (show b2i (decide ((D.ls.length : Int) < D.ls.length)) = 0 by rw [decide_eq_false (by omega)]; rfl)) (aQ D _ _) (fun p hp => by cases hp) (fun u hu => by cases hu) rfl (bf f gQ)
 cases b with
 | true =>
  have hall := (iC D.ls [] ou).2 hb
  exact @cZ _ _ (fun k => fnB w D (atT k) []) gQ _ _ hdT _ _ (fun e => by cases e) D.ls.length (bM _ _ [] []) us (fun k hk => hstep k hk (hall k hk)) hend 5 K ok
 | false =>
  rcases jl (fun i => ou (D.typ i)) D.ls.length with hall | ⟨N, hN, h0, hn⟩
  ·rw [(iC D.ls [] ou).1 hall] at hb
   cases hb
  ·exact @cZ _ _ (fun k => fnB w D (atT k) []) gQ _ _ hdT _ _ (fun e => by cases e) N (bM _ _ [] []) us (fun k hk => hstep k (by omega) (h0 k hk)) (bG aea (bg (htb N hN)) (bM _ _ _ _) (hin N hN) (aQ D _ _) (hok N false hn) (fun u hu => by cases hu) rfl (bf f gQ)) 5 K ok
theorem blks (hB : D.bs.length <= 1000) (hS : ∀ b ∈ D.bs, b.st.length <= 1000) (h1 : 1 <= D.ls.length) (h16 : D.ls.length <= 16) {b : Bool} (hb : D.bs.all (block.okB D) = b) (K : Know) (ok : aG K (fnB w D (atB 0) []).rho (fnB w D (atB 0) []).sig) :
  @aO ((fnB w D (atB 0) []).aH K ok) Tryz.prog (rowB (if b then .exit 2 else .ret) (if b then sN else sR) K) tH := by
 have us : ∀ u ∈ [isU (.xi .i64 4) (.int .i64 0)], ig (fnB w D (atB 0) []) (fnB w D (atB 0) []) u := fun u hu => by
  obtain rfl := List.mem_singleton.1 hu
  exact dN fun r v hv => hv
 have mem : ∀ i, i < D.bs.length -> D.blk i ∈ D.bs := fun i hi => by
  unfold FnD.blk
  rw [List.getD_eq_getElem?_getD, List.getElem?_eq_getElem hi]
  exact List.getElem_mem hi
 have hin : ∀ k, k < D.bs.length -> LB1.Holds (aF (aJ D (atB k) [])) (fun _ => []) := fun k hk => (twos.eH h (atB k) (gG (by omega)) []).pin (i := 6) (c := 1) (show b2i (decide ((k : Int) < D.bs.length)) = 1 from (bY _).2 (by omega))
 have rg : ∀ k, k < D.bs.length -> ∀ b, block.okB D (D.blk k) = b -> jG Tryz.prog (dH (rB b) (bW.app iG) aX) (fnB w D (atB k) []) := fun k hk b e => by
  refine fG (fun K ok => ?_) (@aV (fnB w D (atB k) []) bW iG (aU h _ _) (dL h (q := atB k) hk _)) nK
  refine @dA ((fnB w D (atB k) []).aH K ok) _ block.f ⟨_, Tryz.func77, by kernel_rfl, by kernel_rfl⟩ _ _ (by rfl) [v, .agg (D.blk k).cells.toArray] (block.a95 h hk []) (.bool b) (fun r => vmB _ r b) fun w' hw => ?_
  rw [<- e]
  exact block.a4Q (h.frz hw) hk hB (hS _ (mem k hk)) h1 h16
 have hstep : ∀ k, k < D.bs.length -> block.okB D (D.blk k) = true -> gJ Tryz.prog (fnB w D (atB k) []) (fnB w D (atB (k + 1)) []) tH hdB .normal hdB := fun k hk e => by
  refine bG aeM (rg k hk true e) (bM _ _ _ _) (hin k hk) (aQ D _ _) (fun p hp => by cases hp) (fun u hu => ?_) rfl (bf f tH)
  obtain rfl := List.mem_singleton.1 hu
  exact dN fun r v hv => hv
 have hend : gJ Tryz.prog (fnB w D (atB D.bs.length) []) (fnB w D (atB 0) []) tH hdB (.exit 2) sN :=
  bG alE (bg (aU h _ _)) (bM _ _ _ _) (L := LB0) ((twos.eH h (atB D.bs.length) (gG (by omega)) []).pin (i := 6) (c := 0) (show b2i (decide ((D.bs.length : Int) < D.bs.length)) = 0 by rw [decide_eq_false (by omega)]; rfl)) (aQ D _ _) (fun p hp => by cases hp) (fun u hu => by cases hu) rfl (bf f tH)
 cases b with
 | true =>
  have hall := (iC D.bs b0 (block.okB D)).2 hb
  exact @cZ _ _ (fun k => fnB w D (atB k) []) tH _ _ hdB _ _ (fun e => by cases e) D.bs.length (bM _ _ [] []) us (fun k hk => hstep k hk (hall k hk)) hend 12 K ok
 | false =>
  rcases jl (fun i => block.okB D (D.blk i)) D.bs.length with hall | ⟨N, hN, h0, hn⟩
  ·rw [(iC D.bs b0 (block.okB D)).1 hall] at hb
   cases hb
  ·exact @cZ _ _ (fun k => fnB w D (atB k) []) tH _ _ hdB _ _ (fun e => by cases e) N (bM _ _ [] []) us (fun k hk => hstep k (by omega) (h0 k hk)) (bG ajT (rg N hN false hn) (bM _ _ _ _) (hin N hN) (aQ D _ _) (fun p hp => by cases hp) (fun u hu => by cases hu) rfl (bf f tH)) 12 K ok
theorem a5e : bF f [v] w (.bool (uF D)) := by
 have hst := twos.eH h (atB 0) (gG (by omega)) []
 have lib : ∀ b, many.iO D = b -> ∀ K (ok : aG K (fnB w D (atB 0) []).rho (fnB w D (atB 0) []).sig), @Sound ((fnB w D (atB 0) []).aH K ok) Tryz.prog (al1 b K) := fun b e =>
  Ru h ⟨_, Tryz.func41, by kernel_rfl, by kernel_rfl⟩ (fun b0 r => vmB b0 r b) (atB 0) [] fun w' hw => e ▸ many.V9 hw
 have go : ∀ {m : Bool} {tb : Tabs} {rows : Know -> List (FuncId × Loops)} {giv : List (E × Bool)} {g : List Bool -> V} {hs : HT} {L : Lf} {u : Bool}, aI (run m tb rows giv [] g) hs L = true -> many.iO D = m -> @aZ (fnB w D (atB 0) []) tb -> L.Holds (aF (aJ D (atB 0) [])) (fun _ => []) ->
   (∀ K (ok : aG K (fnB w D (atB 0) []).rho (fnB w D (atB 0) []).sig), ∀ p ∈ rows K, ∃ F : Func, Tryz.prog.funcs[p.1]? = some F /\ ∀ c, F.body = some c -> Loops.ok (@aO ((fnB w D (atB 0) []).aH K ok) Tryz.prog p.2) c) -> (∀ p ∈ giv, p.1.num (aF (aJ D (atB 0) [])) = p.2) -> g [] = V.s (.bool u) -> bF f [v] w (.bool u) := fun {m tb rows giv g hs L u} hr hm ht hL hrows hg e =>
  jw h hr (fG (lib m hm) ht (rows_ok hrows)) hL (aQ D _ _) hg (fun r x hx => by
   have hx : @VV (fnB w D (atB 0) []) r (g []) x := hx
   rw [e] at hx
   exact hx)
 unfold uF
 cases hm : many.iO D with
 | true => exact go al0 hm (aU h _ _) hst (fun K ok p hp => by cases hp) (fun p hp => by cases hp) rfl
 | false =>
  obtain ⟨s1, s2, s3⟩ := check.vC hm
  rw [Bool.not_false, Bool.true_and]
  cases hg : guard D with
  | false =>
   refine go akD hm (aU h _ _) hst (fun K ok p hp => by cases hp) (fun p hp => ?_) rfl
   obtain rfl := List.mem_singleton.1 hp
   exact (EO h _).trans hg
  | true =>
   have hg' := hg
   unfold guard at hg'
   simp only [Bool.and_eq_true, decide_eq_true_eq] at hg'
   obtain ⟨g1, g2, g3, g4, g5⟩ := hg'
   have hLS : LS.Holds (aF (aJ D (atB 0) [])) (fun _ => []) := ((((hst.lo (i := 2) (c := 1) (show (1 : Int) <= (D.ls.length : Int) by omega)).lo (i := 3) (c := 1) (show (1 : Int) <= (D.bs.length : Int) by omega)).lo (i := 0) (c := 0) g3).hi (i := 0) (c := 8) g4).pin (i := 76) (c := 1) ((bY _).2 g5)
   have rT : ∀ b, D.ls.all ou = b -> ∀ K (ok : aG K (fnB w D (atB 0) []).rho (fnB w D (atB 0) []).sig), ∃ F : Func, Tryz.prog.funcs[f]? = some F /\ ∀ c, F.body = some c -> Loops.ok (@aO ((fnB w D (atB 0) []).aH K ok) Tryz.prog (rowT (if b then .exit 0 else .ret) (if b then sN else sR) K)) c := fun b e K ok =>
    ⟨F, Tryz.func42, fun c hc => iF adJ (typs h (by omega) e K ok) hc⟩
   have rBk : ∀ b, D.bs.all (block.okB D) = b -> ∀ K (ok : aG K (fnB w D (atB 0) []).rho (fnB w D (atB 0) []).sig), ∃ F : Func, Tryz.prog.funcs[f]? = some F /\ ∀ c, F.body = some c -> Loops.ok (@aO ((fnB w D (atB 0) []).aH K ok) Tryz.prog (rowB (if b then .exit 2 else .ret) (if b then sN else sR) K)) c := fun b e K ok =>
    ⟨F, Tryz.func42, fun c hc => iF ajL (blks h (by omega) (fun x hx => by have := s3 x hx; omega) (by omega) s1 e K ok) hc⟩
   rw [Bool.true_and]
   cases ht : D.ls.all ou with
   | false => exact go abU hm (aU h _ _) hLS (fun K ok p hp => by obtain rfl := List.mem_singleton.1 hp; exact rT false ht K ok) (fun p hp => by cases hp) rfl
   | true =>
    have t0 : @aZ (fnB w D (atB 0) []) (bW.app Wp) := @aV (fnB w D (atB 0) []) bW Wp (aU h _ _) (a0h h (atB 0) rfl g1 [])
    have gv : ∀ b, (!head.Uk D) = !b -> ∀ p ∈ [(head.okN, true), (isE 62 0, !b)], p.1.num (aF (aJ D (atB 0) [])) = p.2 := fun b e p hp => by
     simp only [List.mem_cons, List.not_mem_nil, or_false] at hp
     rcases hp with rfl | rfl
     ·exact (Iy (atT 0) [] (e := GN) rfl).trans ((iC D.ls [] ou).2 ht 0 g1)
     ·show (decide (ah (D.typ 0) 1 = 0) && true) = !b
      rw [Bool.and_true, <- e]
      unfold head.Uk
      rw [Bool.not_not]
    rw [Bool.true_and]
    cases hp : head.Uk D with
    | true => exact go alN hm t0 hLS (fun K ok p hp => by obtain rfl := List.mem_singleton.1 hp; exact rT true ht K ok) (gv true (by rw [hp])) rfl
    | false =>
     rw [Bool.not_false, Bool.true_and]
     cases hb : D.bs.all (block.okB D) with
     | false => exact go akE hm t0 hLS (fun K ok p hp => by
       simp only [List.mem_cons, List.not_mem_nil, or_false] at hp
       rcases hp with rfl | rfl
       ·exact rT true ht K ok
       ·exact rBk false hb K ok) (gv false (by rw [hp])) rfl
     | true => exact go pG hm t0 hLS (fun K ok p hp => by
       simp only [List.mem_cons, List.not_mem_nil, or_false] at hp
       rcases hp with rfl | rfl
       ·exact rT true ht K ok
       ·exact rBk true hb K ok) (gv false (by rw [hp])) rfl
end
end Go.Proofs.YtglmonlofejcgaaGreatDoor.madeR
