/- place.Read and the reference's Read as oracles of the machine: rows of what they answer. -/
import Derived.Test.YtncbkjokabgkbaaDoorReadAll
namespace Go.Proofs.YtncbkjokabgkbaaDoor.Am
open Go.RowKit
set_option linter.unusedSectionVars false

/-- a row: the string, the place's cells, the number -/
abbrev DRow := Nat × List S × S
noncomputable def readG (T : List DRow) (args : List A) : Option V := match args with
  | [.s (.xs [a])] => (T.find? fun r => Nat.beq (256 + r.1) a).map fun r => .t [.g r.2.1, .s r.2.2]
  | _ => none
noncomputable def readO (T : List DRow) : Oracle := fun f a h fl => orR (pureO 30 (readG T) f a h fl) (pureO 31 (readG T) f a h fl)
/-- a row holds -/
def DOk [Base] (w0 : World) (r : DRow) : Prop := ∃ l d f e, (ReadsAs w0 30 (Base.sig r.1) l d f e ∧ ReadsAs w0 31 (Base.sig r.1) l d f e) ∧
  ∀ q : Ren, All2 (VS q) r.2.1 [.int .i64 l, .bool d, .int .u8 f] ∧ VS q r.2.2 (.int .i64 e)
theorem readG_some {T : List DRow} {args : List A} {v : V} (h : readG T args = some v) : ∃ r ∈ T, args = [.s (.xs [256 + r.1])] ∧ v = .t [.g r.2.1, .s r.2.2] := by
  unfold readG at h
  split at h
  · rename_i a
    cases hf : T.find? (fun r => Nat.beq (256 + r.1) a) with
    | none => rw [hf] at h; cases h
    | some r =>
      rw [hf] at h
      cases h
      have := Nat.eq_of_beq_eq_true (List.find?_some (p := fun r : DRow => Nat.beq (256 + r.1) a) hf)
      subst this
      exact ⟨r, List.mem_of_find?_eq_some hf, rfl, rfl⟩
  · cases h
section
variable {w0 : World} {K : Know} {rho : Nat → Int} {sig : Nat → List UInt8} (ok : KnowOk K rho sig) {T : List DRow}
theorem sound_readG (hT : ∀ r ∈ T, @DOk (base0 w0 ok) w0 r) {F : FuncId} (hF : Callable Tryd.prog F) (hs : ∀ s l d f e, ReadsAs w0 30 s l d f e ∧ ReadsAs w0 31 s l d f e → ReadsAs w0 F s l d f e) :
    @Sound (base0 w0 ok) Tryd.prog (pureO F (readG T)) := by
  letI : Base := base0 w0 ok
  refine sound_pure hF fun args v hg r vs ha w hw => ?_
  obtain ⟨q, hq, rfl, rfl⟩ := readG_some hg
  obtain ⟨u, rfl, hu⟩ := all2_one ha
  have hu : u = .string ⟨(strX sig [256 + q.1]).toArray⟩ := hu
  rw [strX_one] at hu
  subst hu
  obtain ⟨l, d, f, e, h1, h2⟩ := hT q hq
  obtain ⟨h3, h4⟩ := h2 r
  exact (hs _ _ _ _ _ h1 w hw).mono fun x w' ⟨k1, k2⟩ => ⟨_, k1, ⟨_, rfl, ⟨_, rfl, h3⟩, h4, trivial⟩, k2⟩
theorem sound_read (hT : ∀ r ∈ T, @DOk (base0 w0 ok) w0 r) : @Sound (base0 w0 ok) Tryd.prog (readO T) :=
  @sound_or (base0 w0 ok) _ _ _ (sound_readG ok hT ⟨_, Tryd.func30, by kernel_rfl, by kernel_rfl⟩ fun _ _ _ _ _ h => h.1)
    (sound_readG ok hT ⟨_, Tryd.func31, by kernel_rfl, by kernel_rfl⟩ fun _ _ _ _ _ h => h.2)
end
end Go.Proofs.YtncbkjokabgkbaaDoor.Am
