/- A select of one case, with a default: functions that hold one. -/
import Derived.Test.YtllohgmahflpaaaAbFunc
import Derived.Test.YtllohgmahflpaaaAbHeapCall
set_option linter.unusedSectionVars false
set_option linter.unusedSimpArgs false
set_option linter.unusedVariables false
namespace Ab
open Go
section
variable [Uni] [Cod]

/-- A select alone: one send or one receive, with a default. -/
def selC (e : Env) (o : Oper) (s : St) : Res St := match o.op, o.guard, o.dst with
  | .select cs false, none, some d => (match cs.toList with
    | [cse] => (match evO s [] [] cse.chan with
      | .c (.ch b) => (match s.heap[b]? with
        | some (.chn c cap LL) => (match (e.T cse.elem).zero, (e.T cse.elem).agg with
          | [.nils], false => (match cse.send with
            | some x => (match evO s [] [] x with
              | .c (.slw r) => (match s.heap[r]? with
                | some (.row c' L) => (match castL c c' L with
                  | some L => .br (decide (LL.length < cap)) (.val ⟨s.tmps.set d (.tup [some (false, [.int .i64 0]), some (false, [.bool false])]), (s.heap.set r .dead).set b (.chn c cap (LL ++ [L]))⟩)
                      (.val ⟨s.tmps.set d (.tup [some (false, [.int .i64 (-1)]), some (false, [.bool false])]), s.heap⟩)
                  | none => .fail)
                | _ => .fail)
              | _ => .fail)
            | none => .br LL.isEmpty (.val ⟨s.tmps.set d (.tup [some (false, [.int .i64 (-1)]), some (false, [.bool false]), some (false, [.nils])]), s.heap⟩)
                (.opt LL.head? fun L => .val ⟨s.tmps.set d (.tup [some (false, [.int .i64 0]), some (false, [.bool true]), some (false, [.slw s.heap.length])]), s.heap.set b (.chn c cap LL.tail) ++ [.row c L]⟩))
          | _, _ => .fail)
        | _ => .fail)
      | _ => .fail)
    | _ => .fail)
  | _, _, _ => .fail

def selOf (d : Bool) : List Oper → Option (Oper × List Oper)
  | o :: r => (match d, o.op with
    | false, .select _ _ => some (o, r)
    | _, _ => none)
  | [] => none

/-- Code that may hold a select. -/
def codeS (e : Env) (n0 : Nat) : Code → St → Res (Ex × St)
  | .seq a b, s => (codeS e n0 a s).bind fun p => match p.1 with
    | .normal => codeS e n0 b p.2
    | x => .val (x, p.2)
  | .cond c a b, s => match evO s [] [] c with
    | .c (.bool t) => .br t (codeS e n0 a (setCond s c true)) (codeS e n0 b (setCond s c false))
    | _ => .fail
  | .block id b, s => (codeS e n0 b s).bind fun p => match p.1 with
    | .exit i => if Nat.beq i id then .val (.normal, p.2) else .val (.exit i, p.2)
    | x => .val (x, p.2)
  | .region id ops d, s => match selOf d ops.toList with
    | some (o, r) => if wfGo ops.toList [] ops.toList then (selC e o s).bind fun s => (opsR e false false ops.toList r ⟨[], []⟩ s).bind fun s => .val (.normal, s) else .fail
    | none => codeR e n0 (.region id ops d) s
  | c, s => codeR e n0 c s

def runS (e : Env) (f : Func) (args : List AV) (h : List Blk) : Res (AV × List Blk) :=
  match f.body with
  | none => .fail
  | some c => (codeS e h.length c ⟨args ++ List.replicate (f.ntmps - args.length) .top, h⟩).bind fun p => match p.1 with
    | .exit _ => .fail
    | _ => match resultsR e f p.2 with
      | none => .fail
      | some v =>
        let m := reachOf p.2.heap (List.range h.length ++ refsV v)
        if nodupB m && firstB 0 h.length m then .val (renV (fun x => idxOf x m) v, pickB p.2.heap m) else .fail

end

/-! ### Where the walk is told of frames that are entered in the ordinary way -/
section
variable {P : Program} {Q : Exit → Act → World → Prop} {a : Act} {w : World}

/-- Code arrives, whatever ordinary frame it stands in. -/
def WpN (P : Program) (c : Code) (Q : Exit → Act → World → Prop) (a : Act) (w : World) : Prop :=
  ∀ (b : Frame) (k : List Item) (cs : List Frame), b.kind ≠ .early → ∃ e a' w', Q e a' w' ∧ Arrives P (lone (b.at a (.code c :: k)) cs w) b k cs e a' w'

theorem WpN.of {c : Code} (h : c.wp P Q a w) : WpN P c Q a w := fun b k cs _ => h b k cs
theorem WpN.mono {c : Code} {Q' : Exit → Act → World → Prop} (h : WpN P c Q a w) (hq : ∀ e a w, Q e a w → Q' e a w) : WpN P c Q' a w := by
  intro b k cs hb
  obtain ⟨e, a', w', q, r⟩ := h b k cs hb
  exact ⟨e, a', w', hq _ _ _ q, r⟩
theorem WpN.seq {x y : Code} (h : WpN P x (fun e a w => match e with | .normal => WpN P y Q a w | e => Q e a w) a w) : WpN P (.seq x y) Q a w := by
  intro b k cs hb
  obtain ⟨e, a1, w1, hq, harr⟩ := h b (.code y :: k) cs hb
  have pass : ∀ e, e ≠ .normal → Q e a1 w1 → Arrives P (lone (b.at a (.code x :: .code y :: k)) cs w) b (.code y :: k) cs e a1 w1 →
      ∃ e a' w', Q e a' w' ∧ Arrives P (lone (b.at a (.code (.seq x y) :: k)) cs w) b k cs e a' w' := fun e he q r =>
    ⟨e, a1, w1, q, .of_steps (.one step_seq) (.pass (x := .code y) rfl (fun _ _ => .inl he) r)⟩
  cases e with
  | normal =>
    obtain ⟨e2, a2, w2, q2, r2⟩ := hq b k cs hb
    exact ⟨e2, a2, w2, q2, .of_steps (.head step_seq harr) r2⟩
  | _ => exact pass _ (by simp) hq harr
theorem WpN.cond {c : Operand} {x y : Code} {t : Bool} (hc : a.eval c = .bool t) (h : WpN P (if t then x else y) Q a w) : WpN P (.cond c x y) Q a w := by
  intro b k cs hb
  obtain ⟨e, a', w', q, r⟩ := h b k cs hb
  exact ⟨e, a', w', q, .of_steps (.one (step_cond hc)) r⟩
theorem WpN.block {id : Nat} {c : Code} (h : WpN P c (Exit.inBlock id Q) a w) : WpN P (.block id c) Q a w := by
  intro b k cs hb
  obtain ⟨e, a1, w1, hq, harr⟩ := h b (.inBlock id :: k) cs hb
  cases e with
  | normal => exact ⟨.normal, a1, w1, hq, .head step_block (Steps.trans harr (.one step_inBlock))⟩
  | exit j =>
    by_cases hj : j = id
    · subst hj
      simp only [Exit.inBlock, if_true] at hq
      exact ⟨.normal, a1, w1, hq, .head step_block (harr k (by simp [exitTo]))⟩
    · simp only [Exit.inBlock, hj, if_false] at hq
      refine ⟨.exit j, a1, w1, hq, fun k' hk => .head step_block (harr k' ?_)⟩
      have : (id == j) = false := by simp; exact fun hh => hj hh.symm
      simp [exitTo, this, hk]
  | goto l => exact ⟨_, a1, w1, hq, fun k' hk => .head step_block (harr k' (by simp [gotoIn, hk]))⟩
  | ret => exact ⟨_, a1, w1, hq, .of_steps (.one step_block) harr⟩
  | panic ch => exact ⟨_, a1, w1, hq, .of_steps (.one step_block) harr⟩
  | outgrown => exact ⟨_, a1, w1, hq, .of_steps (b := b) (k := k) (cs := cs) (e := .outgrown) (.one step_block) harr⟩

theorem calls_of_wpN {f : FuncId} {fn : Func} {c : Code} {args : Array Value} {R : Ending → World → Prop}
    (hf : P.funcs[f]? = some fn) (hb : fn.body = some c) (h : WpN P c (bodyPost P fn R) { tmps := args ++ Array.replicate (fn.ntmps - args.size) undef, defers := [] } w) (hno : ∀ w, ¬ R .outgrown w) :
    Calls P f args w R := by
  intro cs
  have henter : Frame.enter P f args .normal = ({ (default : Frame) with fn := f, kind := .normal } : Frame).at { tmps := args ++ Array.replicate (fn.ntmps - args.size) undef, defers := [] } [.code c] := by
    simp [Frame.enter, Frame.at, hf, hb]
  obtain ⟨e, a', w', hq, harr⟩ := h { (default : Frame) with fn := f, kind := .normal } [] cs (by simp)
  rw [← henter] at harr
  cases e with
  | normal =>
    obtain ⟨hd, v, hr, hR⟩ := hq
    exact ⟨.returned v, w', _, hR, Steps.trans harr (.one step_end), rfl, rfl, hd, rfl, fn, hf, hr⟩
  | ret =>
    obtain ⟨hd, v, hr, hR⟩ := hq
    obtain ⟨todo, hs⟩ := harr
    exact ⟨.returned v, w', _, hR, hs, rfl, rfl, hd, rfl, fn, hf, hr⟩
  | panic chain =>
    obtain ⟨hd, hR⟩ := hq
    obtain ⟨todo, hs⟩ := harr
    exact ⟨.panicked chain, w', _, hR, hs, rfl, rfl, hd, fn, hf⟩
  | exit id => exact hq.elim
  | goto l => exact hq.elim
  | outgrown => exact absurd hq (hno _)

/-- A region whose first operation is a select. -/
theorem WpN.select {id : Nat} {ops : Array Oper} {o : Oper} {r : List Oper} {cases : Array CommCase} {v : Value} {w1 : World} (hops : ops.toList = o :: r) (hg : o.guard = none)
    (hrun : (execOp a.eval o).run P w = .ok (.comm cases false .select) w)
    (hstep : ∀ (fr : Frame) (cs : List Frame) es, Go.stepG P true (Go.Conc.G fr cs) w = .comm (Go.Conc.G fr cs) cases false .select w es → step P (Go.Conc.solo (Go.Conc.G fr cs) w) = .next (Go.Conc.solo (Go.Conc.G (fr.finish v) cs) w1))
    (hK : wpList P ops Q r (a.put o.dst v) w1) : WpN P (.region id ops false) Q a w := by
  intro b k cs hb
  have h0 : ops[0]? = some o := by rw [← Array.getElem?_toList, hops]; rfl
  have hsz : ops.size = r.length + 1 := by rw [← Array.length_toList, hops]; rfl
  have hl : List.range ops.size = 0 :: List.range' 1 r.length := by
    rw [List.range_eq_range', hsz, List.range'_succ]
  have hwr := wpOps_eq_wpList (P := P) (ops := ops) (Q := Q) r 1 (fun j => by
    rw [← Array.getElem?_toList, hops, Nat.add_comm]; rfl)
  rw [← hwr] at hK
  obtain ⟨e, a', w', q, harr⟩ := wp_ops _ _ _ hK b k cs
  have hw : Region.wanted o (yielded ops a.tmps) = true := by unfold Region.wanted; rw [hg]
  have hG := Go.Conc.stepG_comm (main := true) (k := k) (cs := cs) (rest := List.range' 1 r.length) h0 hw hb hrun
  have hs := hstep _ cs _ hG
  rw [Frame.finish_at, h0] at hs
  have h1 : step P (lone (b.at a (.code (.region id ops false) :: k)) cs w) = .next (lone (b.at a (.inRegion ops (0 :: List.range' 1 r.length) :: k)) cs w) := by
    rw [← hl]; exact step_region
  exact ⟨e, a', w', q, .of_steps (.head h1 (.one hs)) harr⟩
end
end Ab
