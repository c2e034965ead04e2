import Derived.Test.YtoiahmmockgcbaaRaEq
import Derived.Test.YtoiahmmockgcbaaK3
import Derived.Test.YtoiahmmockgcbaaIxb
/- What the one function without a body of Go's own comes to. -/
namespace Go.Proofs.Ytoiahmmockgcbaa.Eq
open Go Go.Ra
set_option linter.unusedVariables false

theorem hmix : Try.prog.follows .mixedOrders = true := by kernel_rfl

/-- Nothing is to be known of memory here. -/
instance known : Known := ⟨fun _ _ => True, fun _ _ _ => trivial⟩

theorem gv_ok (u : Nat) (g : (A.var u).PT → Option (A.var u).RT) (h : A.gv u = some g) : Sound Try.prog (A.var u) g := by
  have h' : gvT u = some g := h
  unfold gvT at h'
  split at h'
  · rename_i hu
    subst hu
    injection h' with h'
    subst h'
    show Sound Try.prog var108 g108
    intro x y hy w T I args hH
    obtain ⟨s, c⟩ := x
    have hok := hH.ok
    rcases args with ⟨l⟩
    match l, hok with
    | [v1, v2], ⟨⟨x1, e1, r1⟩, ⟨x2, e2, r2⟩, _⟩ =>
      cases e1
      cases e2
      simp only [RU, RC, List.cons.injEq, and_true] at r1 r2
      subst r1 r2
      have hy' : some (Lib.indexByte s.data.toList c.toNat.toUInt8) = some y := hy
      injection hy' with hy'
      subst hy'
      refine (Try.stringslite_IndexByte s c w).mono ?_
      rintro e w' ⟨rfl, rfl⟩
      refine ⟨[.int .i64 _], T, rfl, Mod.refl _ _, fun _ z => z, fun b z => ⟨.inl z, hH.tb b z⟩, ⟨⟨_, rfl, ?_⟩, trivial⟩, trivial, ?_, ?_⟩
      · simp only [RU, RC]
      · exact List.nodup_nil
      · intro b hb
        simp [resH, backH, var108] at hb
  · simp at h'
end Go.Proofs.Ytoiahmmockgcbaa.Eq
