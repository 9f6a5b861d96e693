import Derived.Test.YtifobhaccglckaaHayZa
/- Plain laws: what bytes may say: the reference's. -/
namespace Go.Proofs.Ytifobhaccglckaa.Hay
theorem enc_is {kind : Int} {l : List Api_Value} {b : List Int} {many : Nat} (he : enc kind l = (b, 0)) (hlen : l.length = many) (hm : 1 ≤ many) : b = encK kind l := by
  obtain ⟨_, _, _, _, he⟩ := enc_some he
  rcases he with ⟨e, _⟩ | ⟨_, e⟩
  · subst e; simp at hlen; omega
  · exact e
end Go.Proofs.Ytifobhaccglckaa.Hay
