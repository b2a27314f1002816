/- The loop of jump.Check and the loop of the reference's Valid, as rows. -/
import Derived.Test.YtaamdiknefodgaaDoorLoops06
namespace Go.Proofs.YtaamdiknefodgaaDoor.Am
open Go.RowKit
set_option maxRecDepth 100000

/-! jump.Check -/
noncomputable def codeC : Code := loopAt Tryd.f22 0
noncomputable def anyC : List V := List.replicate Tryd.f22.ntmps V.any
noncomputable def hdC (i : Nat) : St := ⟨upd (upd (upd anyC 116 (V.s (.rv 0))) 117 (V.s (.xi .i64 0))) 118 (V.s (.xi .i64 i)), ⟨[], 1⟩⟩
noncomputable def okC : St := ⟨anyC, ⟨[], 1⟩⟩
noncomputable def badC : St := ⟨upd anyC 2 (V.s (.int .i64 8)), ⟨[], 1⟩⟩
/-! the reference's Valid -/
noncomputable def codeV : Code := loopAt Tryd.f64 0
noncomputable def anyV : List V := List.replicate Tryd.f64.ntmps V.any
noncomputable def hdV (i : Nat) : St := ⟨upd (upd anyV 1 (V.s (.ptr 0 0))) 6 (V.s (.xi .i64 i)), ⟨[(0, ⟨[.top, .top, .top, .top, .top, .top, .top, .top, .top, .rv 0, .top, .top, .top], true⟩)], 1⟩⟩
noncomputable def okV : St := ⟨anyV, ⟨[], 1⟩⟩
noncomputable def badV : St := ⟨upd anyV 2 (V.s (.bool false)), ⟨[], 1⟩⟩

def thUp : Th := [(.xi .i64 1, .xi .i64 2)]
def thEnd : Th := [(.xi .i64 0, .xi .i64 1)]
/-- what the head says, at the entry: the length is that number, the list is that list -/
def thIn (nl m : Nat) : Th := [(.xi .i64 0, .xi .i64 nl), (.xi .i64 1, .int .i64 0), (.rv 0, .rv m)]
theorem stepC_run : tellsR ⟨1, 0, 1⟩ thUp .normal (hdC 1) (@exec (L1.know []) (ctxE tbO (rowChk 62 0)) 0 5 codeC (hdC 1)) = true := by kernel_rfl
theorem lastC_run : tellsR ⟨0, 0, 0⟩ [] (.exit 1) okC (@exec (L2.know []) (ctxE tbL quietO) 0 5 codeC (hdC 0)) = true := by kernel_rfl
theorem badC_run : tellsR ⟨0, 0, 0⟩ [] .ret badC (@exec (L1.know []) (ctxE tbO (rowChk 62 8)) 0 5 codeC (hdC 1)) = true := by kernel_rfl
theorem stepV_run : tellsR ⟨1, 0, 1⟩ thUp .normal (hdV 1) (@exec (L1.know []) (ctxE tbO (rowChk 93 0)) 0 5 codeV (hdV 1)) = true := by kernel_rfl
theorem lastV_run : tellsR ⟨0, 0, 0⟩ [] (.exit 1) okV (@exec (L2.know []) (ctxE tbL quietO) 0 5 codeV (hdV 0)) = true := by kernel_rfl
theorem badV_run : tellsR ⟨0, 0, 0⟩ [] .ret badV (@exec (L1.know []) (ctxE tbO (rowChk 93 8)) 0 5 codeV (hdV 1)) = true := by kernel_rfl
theorem endC_fit : fitSt ⟨1, 0, 1⟩ thEnd (hdC 0) (hdC 1) = true := by kernel_rfl
theorem endV_fit : fitSt ⟨1, 0, 1⟩ thEnd (hdV 0) (hdV 1) = true := by kernel_rfl

theorem Turns.pre {P : Program} {b1 b2 : Base} {d : Bd} (ag : Agree b1 b1 d) {th : Th} (ht : Th.ok b1 b1 th) {c : Code} {hd hd' s1 : St} {x : X} (hf : fitSt d th hd' hd = true) (hnx : hd.h.next = hd'.h.next) (h : Turns P b1 b2 c hd' x s1) : Turns P b1 b2 c hd x s1 := by
  intro r B a w hr
  obtain ⟨k1, k2⟩ := fitSt_ok ag ht hf hr
  have hadv := k2 (fl := 0) (Parts.ok hr).n hnx (@Adv.refl b1 0 hd.h r B w (@Rel.i b1 _ _ _ _ _ hr)) (fun l _ h => absurd h (Nat.not_lt_zero l))
  exact wp_mono (h k1) fun e a' w' ⟨h1, r', h2, h3, h4⟩ => ⟨h1, r', h2, Adv.trans' (Parts.ok hr).dom (Parts.ok k1).dom hadv h3, h4⟩
section
variable {w0 : World} {v : Value} {els : List (List Value)}
theorem thUp_ok (k : Nat) : Th.ok (baseE w0 v els k) (baseE w0 v els (k + 1)) thUp := by
  intro p hp r u hu
  obtain rfl := List.mem_singleton.1 hp
  exact hu
theorem thNil (b1 b2 : Base) : Th.ok b1 b2 [] := fun p hp => by cases hp
theorem thEnd_ok {k : Nat} (h : k = els.length) : Th.ok (baseE w0 v els k) (baseE w0 v els k) thEnd := by
  intro p hp r u hu
  obtain rfl := List.mem_singleton.1 hp
  subst h
  exact hu
theorem thIn_ok {bo : Base} {nl m : Nat} (h1 : bo.rho nl = els.length) (h2 : (bo.lst m).v = v) : Th.ok bo (baseE w0 v els 0) (thIn nl m) := by
  intro p hp r u hu
  simp only [thIn, List.mem_cons, List.mem_nil_iff, or_false] at hp
  rcases hp with rfl | rfl | rfl
  · have hu : u = .int .i64 (bo.rho nl) := hu
    show u = .int .i64 (els.length : Int)
    rw [hu, h1]
  · exact hu
  · have hu : ∃ A n c, (bo.lst m).v = .slice A n c ∧ u = .slice A n c := hu
    rw [h2] at hu
    exact hu
variable {F : FuncId} (hF : Callable Tryd.prog F) (ho : Ops w0 v els) {cs : Nat → Int} (hs : ∀ i el, els[i]? = some el → Says F el (cs i)) {N : Nat} (h0 : ∀ i, i < N → cs i = 0)
include hF ho hs h0
/-- all of them valid, or the first that is not -/
theorem loop06 {bo : Base} (hnb : bo.nb = w0.heap.size) (hg : bo.g = fun b => w0.heap[b]?) {nl m : Nat} (hl : bo.rho nl = els.length) (hv : (bo.lst m).v = v) {c : Code} {hd : Nat → St} (hn1 : (hd 1).h.next = (hd 0).h.next)
    (step : tellsR ⟨1, 0, 1⟩ thUp .normal (hd 1) (@exec (L1.know []) (ctxE tbO (rowChk F 0)) 0 5 c (hd 1)) = true) (hfit : fitSt ⟨1, 0, 1⟩ thEnd (hd 0) (hd 1) = true) {x : X} (hx : x ≠ .normal) {s1 : St} (hn2 : (hd 1).h.next = s1.h.next)
    (last : (N = els.length ∧ tellsR ⟨0, 0, 0⟩ [] x s1 (@exec (L2.know []) (ctxE tbL quietO) 0 5 c (hd 0)) = true) ∨ (N < els.length ∧ cs N = 8 ∧ tellsR ⟨0, 0, 0⟩ [] x s1 (@exec (L1.know []) (ctxE tbO (rowChk F 8)) 0 5 c (hd 1)) = true)) (tag : Nat) :
    @LoopOk bo Tryd.prog (rowL tag ⟨0, 0, 0⟩ (thIn nl m) (hd 1) x s1) c := by
  have hN : N ≤ els.length := by rcases last with ⟨h, _⟩ | ⟨h, _⟩ <;> omega
  have hel : ∀ k, k < els.length → ∃ el, els[k]? = some el := fun k hk => ⟨_, List.getElem?_eq_getElem hk⟩
  refine @rowL_ok _ bo (fun k => baseE w0 v els k) c _ _ _ _ x hx N (agree0 _ _ hnb hg) (thIn_ok hl hv) (fun k hk => ?_) ?_ tag
  · obtain ⟨el, he⟩ := hel k (by omega)
    exact turns_one (agreeE k) rfl (holds1 (by omega)) (tabs_el ho he) (sound_rowChk he (ho.kd k el he) hF (h0 k hk ▸ hs k el he)) (thUp_ok k) step
  · rcases last with ⟨rfl, last⟩ | ⟨hlt, h8, last⟩
    · have hsn : @Sound (baseE w0 v els els.length) Tryd.prog quietO := fun _ _ _ _ _ _ h => by cases h
      intro r B a w hr
      exact Turns.pre ⟨rfl, rfl, fun _ _ => rfl, fun _ _ => rfl, fun _ _ => rfl⟩ (thEnd_ok rfl) hfit hn1 (turns_one (agree0 _ _ hnb.symm hg.symm) (hn1.symm.trans hn2) (holds2 _) (tabs_last ho _) hsn (thNil _ _) last) hr
    · obtain ⟨el, he⟩ := hel N hlt
      exact turns_one (agree0 _ _ hnb.symm hg.symm) hn2 (holds1 hlt) (tabs_el ho he) (sound_rowChk he (ho.kd N el he) hF (h8 ▸ hs N el he)) (thNil _ _) last
end
end Go.Proofs.YtaamdiknefodgaaDoor.Am
