/- A select of one case with a default, in one goroutine, inside the kit's walk ('Code.wp'). Over any program. -/
import Derived.Test.YtapfkpkomdmibaaSl
import Derived.Conc.LoneSelect
set_option linter.unusedVariables false
set_option linter.unusedSimpArgs false
namespace Go.Proofs.Ytapfkpkomdmibaa
open Go.RowKit Go.Conc

theorem stepG_comm_any {P : Program} {b : Frame} {a : Act} {k : List Item} {cs : List Frame} {w : World} {ops : Array Oper} {i : Nat} {rest : List Nat} {o : Oper} {cases : Array CommCase} {blocking : Bool} {shape : CommShape} {w' : World} (ho : ops[i]? = some o) (hw : Region.wanted o (yielded ops a.tmps) = true)
    (hr : (execOp a.eval o).run P w = .ok (.comm cases blocking shape) w') :
    ∃ es, stepG P true (G (b.at a (.inRegion ops (i :: rest) :: k)) cs) w = .comm (G (b.at a (.inRegion ops (i :: rest) :: k)) cs) cases blocking shape w' es := by
  have := stepG_op (P := P) (b := b) (k := k) (cs := cs) (w := w) (rest := rest) ho hw
  simp only [G]
  rw [this]
  simp only [stepG.apply, Sem.runT_eq, hr, GStep.after]
  exact ⟨_, rfl⟩

theorem wp_region_comm {P : Program} {id : Nat} {o : Oper} {l : List Oper} {Q : Exit → Act → World → Prop} {a : Act} {w w' : World} {cases : Array CommCase} {blocking : Bool} {shape : CommShape} {v : Value}
    (hgd : o.guard = none) (hr : (execOp a.eval o).run P w = .ok (.comm cases blocking shape) w)
    (hs : ∀ (fr : Frame) (cs : List Frame) es, stepG P true (G fr cs) w = .comm (G fr cs) cases blocking shape w es → step P (solo (G fr cs) w) = .next (solo (G (fr.finish v) cs) w'))
    (h : wpList P (o :: l).toArray Q l (a.put o.dst v) w') : (Code.region id (o :: l).toArray false).wp P Q a w := by
  intro b k cs
  have hw : Region.wanted o (yielded (o :: l).toArray a.tmps) = true := by simp [Region.wanted, hgd]
  have ho : (o :: l).toArray[0]? = some o := by simp
  rw [← wpOps_eq_wpList (ops := (o :: l).toArray) l 1 (by intro j; simp [Nat.add_comm 1 j])] at h
  obtain ⟨e, a', w₂, hq, harr⟩ := wp_ops _ _ _ h b k cs
  have hrange : List.range (o :: l).toArray.size = 0 :: List.range' 1 l.length := by
    simp [List.range_eq_range', List.range'_succ]
  obtain ⟨es, hes⟩ := stepG_comm_any (P := P) (b := b) (k := k) (cs := cs) (rest := List.range' 1 l.length) ho hw hr
  have h2 := hs _ _ _ hes
  rw [Frame.finish_at, ho] at h2
  refine ⟨e, a', w₂, hq, .of_steps (.one step_region) (.of_steps (.one ?_) harr)⟩
  rw [hrange]
  exact h2
end Go.Proofs.Ytapfkpkomdmibaa
