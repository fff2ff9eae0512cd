/- A region that draws its order, whose operations read and whose callees may lay new blocks: walked once. Conditions: none. -/
import Derived.Test.YtecppcgleidhkaaLib
import Derived.Deep.QuietTactic
import Derived.BigQuiet
namespace Go.Proofs.Ytecppcgleidhkaa.Lat
open Go.RowKit Go.Proofs.Ytecppcgleidhkaa.Lib1

theorem undrew {S : Nat → Prop} {w w1 : World} (h : Chg S w.drew w1) : Chg S w w1 := ⟨h.os, h.tape, h.output, h.size, h.block⟩
/-- A later world: nothing that was there has turned. -/
structure Later (w0 : World) where
  w : World
  chg : Chg (fun _ => False) w0 w

instance (w0 : World) : Inhabited (Later w0) := ⟨⟨w0, Chg.refl _ w0⟩⟩

theorem wp_region_later {P : Program} {id : Nat} {Q : Exit → Act → World → Prop} {a : Act} {w : World} {l : List Oper} (hm : P.follows .mixedOrders = true) (hB : Region.lexB .any l.toArray = true)
    (h : wpQuiet P l.toArray (fun w' => ∃ p : Later w, w' = p.w) (fun a' => ∀ w', (∃ p : Later w, w' = p.w) → Q .normal a' w') l a) : (Code.region id l.toArray true).wp P Q a w :=
  wp_region_quiet (C := fun w' => ∃ p : Later w, w' = p.w) hm hB ⟨⟨w.drew, (Chg.refl _ w).drew⟩, rfl⟩ (by simpa using h)

theorem of_later {P : Program} {f : FuncId} {args : Array Value} {w0 : World} {p : Later w0} {v : Value}
    (h : Calls P f args p.w fun e w' => e = .returned v ∧ Chg (fun _ => False) p.w w') : Calls P f args p.w fun e w'' => e = .returned v ∧ ∃ q : Later w0, w'' = q.w :=
  h.mono fun _ w' ⟨he, hc⟩ => ⟨he, ⟨w', p.chg.trans hc (fun _ _ h => h)⟩, rfl⟩
theorem of_same {P : Program} {f : FuncId} {args : Array Value} {w0 : World} {p : Later w0} {v : Value}
    (h : Calls P f args p.w fun e w' => e = .returned v ∧ p.w = w') : Calls P f args p.w fun e w'' => e = .returned v ∧ ∃ q : Later w0, w'' = q.w :=
  h.mono fun _ _ ⟨he, hc⟩ => ⟨he, p, hc.symm⟩
theorem of_draws {P : Program} {f : FuncId} {args : Array Value} {w0 : World} {p : Later w0} {v : Value}
    (h : Calls P f args p.w fun e w' => e = .returned v ∧ ∃ n, w' = p.w.drewN n) : Calls P f args p.w fun e w'' => e = .returned v ∧ ∃ q : Later w0, w'' = q.w :=
  h.mono fun _ _ ⟨he, n, hc⟩ => ⟨he, ⟨p.w.drewN n, p.chg.drewN n⟩, hc⟩
theorem cell_later {w : World} {a : Addr} {v : Value} (h : w.cell? a = some v) (p : Later w) : p.w.cell? a = some v :=
  (World.cell?_of_block (p.chg.block a.block (World.block_lt_of_cell? w a h) (fun h => h))).trans h
end Go.Proofs.Ytecppcgleidhkaa.Lat
