/- How the laws' argument types are read: each type's datum is a value of its printed kind. -/
import Derived.Test.YtbfochojhmggfaaReads
import Derived.Test.YtbfochojhmggfaaQ0
import Derived.KernelRfl
namespace Go.Proofs.Ytbfochojhmggfaa.Opens
open Go.RowKit Go.Proofs.YtbfochojhmggfaaW.PrintWords Go.Proofs.Ytbfochojhmggfaa.Reads Go.Proofs.Ytbfochojhmggfaa.Q
set_option linter.unusedVariables false
variable {H : Type} {enc : TypeId × Value → H} {w : World}
theorem rd_zero {P : Program} {t : TypeId} {α : Type} {d : Kd α} : Rd enc P w 0 t d := by
  intro fuel hf cs x h
  obtain rfl : fuel = 0 := by omega
  simp [DataW.trod] at h
theorem rd205 : ∀ n, Rd enc Try.prog w n 205 k205
  | 0 => rd_zero
  | n + 1 => by
    intro fuel hf cs x h
    obtain ⟨hl, hfs⟩ := rd_field Try.underlying205 hf h
    have hl' : cs.length = 3 := hl.trans (by kernel_rfl)
    obtain ⟨v0, h0⟩ := hfs 0 _ rfl (rd_int Try.underlying3 n) (by kernel_rfl)
    obtain ⟨v1, h1⟩ := hfs 1 _ rfl (rd_int Try.underlying3 n) (by kernel_rfl)
    obtain ⟨v2, h2⟩ := hfs 2 _ rfl (rd_int Try.underlying3 n) (by kernel_rfl)
    exact ⟨⟨v0, v1, v2⟩, ⟨(cs.drop 0).take 1, cs.drop (0 + 1), cut_one cs 0 1, h0, ⟨_, _, cut_one cs 1 1, h1, (by have e := cut_last cs 2 1 hl'; exact e ▸ h2)⟩⟩⟩
structure S24 where
  f0 : Int
  f1 : (List S205)
  f2 : Int
def k24 : Kd S24 := Kd.iso (Kd.pair (Kd.int .i64) (Kd.pair (Kd.slice 205 k205) (Kd.int .i64))) (fun x : S24 => (x.f0, x.f1, x.f2))
theorem k24_open {w : World} {x : S24} {cs : List Value} (h : k24.K w x cs) : ∃ A1 c1, cs = [.int .i64 x.f0, .slice A1 x.f1.length c1, .int .i64 x.f2] ∧ x.f1.length ≤ c1 ∧ Kd.C k205 w A1 x.f1.length x.f1 := by
  obtain ⟨_, _, rfl, rfl, ⟨_, _, rfl, ⟨A1, c1, rfl, l1, g1⟩, rfl⟩⟩ := h
  exact ⟨A1, c1, rfl, l1, g1⟩
theorem rd24 : ∀ n, Rd enc Try.prog w n 24 k24
  | 0 => rd_zero
  | n + 1 => by
    intro fuel hf cs x h
    obtain ⟨hl, hfs⟩ := rd_field Try.underlying24 hf h
    have hl' : cs.length = 3 := hl.trans (by kernel_rfl)
    obtain ⟨v0, h0⟩ := hfs 0 _ rfl (rd_int Try.underlying3 n) (by kernel_rfl)
    obtain ⟨v1, h1⟩ := hfs 1 _ rfl ((rd_slice Try.underlying22 (by kernel_rfl) (rd205 n)).le (by omega)) (by kernel_rfl)
    obtain ⟨v2, h2⟩ := hfs 2 _ rfl (rd_int Try.underlying3 n) (by kernel_rfl)
    exact ⟨⟨v0, v1, v2⟩, ⟨(cs.drop 0).take 1, cs.drop (0 + 1), cut_one cs 0 1, h0, ⟨_, _, cut_one cs 1 1, h1, (by have e := cut_last cs 2 1 hl'; exact e ▸ h2)⟩⟩⟩
end Go.Proofs.Ytbfochojhmggfaa.Opens
