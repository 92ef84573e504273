/-
  A DRAW REGION WITH WHAT IS LAID AHEAD, as one rewriting.
-/
import Derived.Test.YthpaljelbkclbaaDoorAbsOwn
namespace Go.Abs
open Go
section
variable (C : Cfg) {β : Type}
noncomputable def drawK (ops : List Oper) (a : AAct) (k : Exit → AAct → St → Option β) (p : List (Nat × Nat × List AV × Option (Nat × Nat)) × St) : Option β :=
  chkK (runD C (masksOf ops) ops ops 0 { loud := [], reads := [], news := p.1 } a (k .normal) p.2) (allFresh p.2 0 p.1)
theorem run_drawL (id : Nat) (ops : List Oper) (a : AAct) (σ : St) (k : Exit → AAct → St → Option β) (h1 : tempsOk ops = true) :
    run C (.region id ops.toArray true) a k σ = drawK C ops a k (laid C ops σ ops 0 a.tmps σ) := run_draw C id ops a σ k h1 rfl
theorem drawK_mk (ops : List Oper) (a : AAct) (k : Exit → AAct → St → Option β) (n : List (Nat × Nat × List AV × Option (Nat × Nat))) (σ : St) :
    drawK C ops a k (n, σ) = chkK (runD C (masksOf ops) ops ops 0 { loud := [], reads := [], news := n } a (k .normal) σ) (allFresh σ 0 n) := rfl
end
end Go.Abs
