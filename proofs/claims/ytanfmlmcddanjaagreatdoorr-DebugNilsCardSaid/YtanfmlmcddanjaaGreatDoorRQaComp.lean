/- The abstract machine, part 9: from the model's code to the abstract code, and that what is asked of the one holds of the other. -/
import Derived.Test.YtanfmlmcddanjaaGreatDoorRQaCode
set_option linter.all false
namespace Go.Qa
open Go Go.RowKit

def cOpt (N : Nat) : Option Operand → Option (Option Opd)
  | none => some none
  | some x => (cOpd N x).map some
/-- An operation. -/
def cOp (P : Program) (N : Nat) (hs : List Nat) (o : Oper) : Option AOp :=
  let heap : Bool := match o.dst with
    | some t => hs.contains t
    | none => true
  -- a slice that is appended to lies in a box
  let app : Bool := match o.dst with
    | some t => hs.contains (N + t)
    | none => false
  match o.op with
  | .move x => (cOpd N x).map fun x => .pu (.mov x)
  | .assign x => (cOpd N x).map fun x => .pu (.mov x)
  | .pick c a b => (cOpd N c).bind fun c => (cOpd N a).bind fun a => (cOpd N b).map fun b => .pu (.pick c a b)
  | .alloc t => (P.info? t).bind fun i => i.zero.bind fun z => (z.cells.toList.mapM AV.ofCell).map fun cs => .ef (.alloc heap cs)
  | .box t x => (cOpd N x).map fun x => .ef (.box heap x)
  | .load t a => (P.underlying t).bind fun d => (P.info? t).bind fun i => (cOpd N a).map fun a => .pu (.load (if d.isRow then some i.size else none) a)
  | .store t a x => (P.info? t).bind fun i => (cOpd N a).bind fun a => (cOpd N x).map fun x => .ef (.store i.size a x)
  | .nilCheck x => (cOpd N x).map fun x => .pu (.nilck x)
  | .binOp op t x y _ => match P.underlying t with
    | some (.int _) | some .string => (cOpd N x).bind fun x => (cOpd N y).map fun y => .pu (.bin op x y)
    | _ => if op = .eql ∨ op = .neq then (ekOf P t (cst x || cst y)).bind fun k => (cOpd N x).bind fun x => (cOpd N y).map fun y => .px (.eqs k (op == .neq) x y) else none
  | .unOp op _ x => (cOpd N x).map fun x => .pu (.un op x)
  | .convert s d x => match P.underlying s, P.underlying d with
    | some (.int _), some (.int k) => (cOpd N x).map fun x => .pu (.i2i k x)
    | some .string, some .string => (cOpd N x).map fun x => .px (.ssame x)
    | some .string, some (.slice e) => match P.underlying e with
      | some (.int .u8) => (cOpd N x).map fun x => .ef (.s2b heap x)
      | _ => none
    | some (.slice e), some .string => match P.underlying e with
      | some (.int .u8) => (cOpd N x).map fun x => .px (.b2s x)
      | _ => none
    | _, _ => none
  | .build t parts => match P.underlying t with
    | some (.struct fields) => if fields.toList.all fun f => (P.info? f.type).isSome then
        (P.info? t).bind fun i => i.zero.bind fun z => (z.cells.toList.mapM AV.ofCell).bind fun zc =>
          ((parts.toList.map (·.1)).mapM fun j => (fields[j]?).map fun f => (f.offset, P.cellsOf f.type)).bind fun pl =>
            ((parts.toList.map (·.2)).mapM (cOpd N)).map fun ys => .pu (.build zc ((pl.zip ys).map fun p => (p.1.1, p.1.2, p.2))) else none
    | some (.array _ e) => (P.info? e).bind fun ei => (P.info? t).bind fun i => i.zero.bind fun z => (z.cells.toList.mapM AV.ofCell).bind fun zc =>
        ((parts.toList.map (·.2)).mapM (cOpd N)).map fun ys => .pu (.build zc (((parts.toList.map fun p => (p.1 * ei.size, ei.size)).zip ys).map fun p => (p.1.1, p.1.2, p.2)))
    | _ => none
  | .buildSlice t len parts => match P.underlying t with
    | some (.slice e) => (P.info? e).bind fun i => i.zero.bind fun _ =>
        if parts.toList.map (·.1) = List.range len ∧ len * i.size ≤ 16777216 ∧ len ≤ 16777216 then ((parts.toList.map (·.2)).mapM (cOpd N)).map fun ys => .ef (.bslice i.size ys) else none
    | _ => none
  | .makeFunc f first captured => (first.toList.mapM (cOpd N)).bind fun xs => (captured.toList.mapM (cOpd N)).map fun ys => .pu (.mkfn f xs ys)
  | .makeMap _ none => some (.ef .mkmap)
  | .makeInterface t x => match P.underlying t with
    | some (.interface _) => none
    | some _ => (cOpd N x).map fun x => .px (.mkif t x)
    | none => none
  | .makeSlice t l c => match P.underlying t with
    | some (.slice e) => (P.info? e).bind fun i => i.zero.bind fun z => (z.cells.toList.mapM AV.ofCell).bind fun zc => if z.cells.size = i.size then
        (cOpd N l).bind fun l => (cOpd N c).map fun c => .ef (.mksl i.size i.bytes zc l c) else none
    | _ => none
  | .lookup t x i ok => match P.underlying t with
    | some (.map kt et) => (kkOf P kt).bind fun k => (P.info? et).bind fun inf => inf.zero.bind fun z => (AV.ofConst z).bind fun za =>
        (cOpd N x).bind fun x => (cOpd N i).map fun i => .px (.lookup k za x i ok)
    | _ => none
  | .mapUpdate t m k v => match P.underlying t with
    | some (.map kt _) => (kkOf P kt).bind fun sk => (cOpd N m).bind fun m => (cOpd N k).bind fun k => (cOpd N v).map fun v => .ef (.mupd sk m k v)
    | _ => none
  | .insert t m k v => match P.underlying t with
    | some (.map kt _) => (kkOf P kt).bind fun sk => (cOpd N m).bind fun m => (cOpd N k).bind fun k => (cOpd N v).map fun v => .ef (.mupd sk m k v)
    | _ => none
  | .range t x => match P.underlying t with
    | some (.map _ _) => (cOpd N x).map fun x => .ef (.range x)
    | _ => none
  | .next x false => (cOpd N x).map fun x => .ef (.next x)
  | .entry x => (cOpd N x).map fun x => .px (.entry x)
  | .fieldAddr s x k => match P.underlying s with
    | some (.struct fields) => (fields[k]?).bind fun f => (P.info? f.type).bind fun i => if i.size = 0 then none else (cOpd N x).map fun x => .pu (.off f.offset x)
    | _ => none
  | .field s x k => match P.underlying s with
    | some (.struct fields) => (fields[k]?).bind fun f => (P.underlying f.type).bind fun d => (P.info? f.type).bind fun i => (cOpd N x).map fun x => .px (.fld f.offset (if d.isRow then some i.size else none) x)
    | _ => none
  | .indexAddr t x i => match P.underlying t with
    | some (.slice e) => (P.info? e).bind fun inf => (cOpd N x).bind fun x => (cOpd N i).map fun i => .pu (.iaddr inf.size x i)
    | some (.array n e) => (P.info? e).bind fun inf => (cOpd N x).bind fun x => (cOpd N i).map fun i => .px (.aaddr n inf.size x i)
    | _ => none
  | .index t x i => match P.underlying t with
    | some .string => (cOpd N x).bind fun x => (cOpd N i).map fun i => .pu (.idxS x i)
    | _ => none
  | .slice t x lo hi mx => match P.underlying t with
    | some .string => match mx with
      | none => (cOpd N x).bind fun x => (cOpt N lo).bind fun lo => (cOpt N hi).map fun hi => .pu (.slS x lo hi)
      | some _ => none
    | some (.slice e) => (P.info? e).bind fun i => (cOpd N x).bind fun x => (cOpt N lo).bind fun lo => (cOpt N hi).bind fun hi => (cOpt N mx).map fun mx => .pu (.slR i.size x lo hi mx)
    | some (.array n e) => match lo, hi, mx with
      | none, none, none => (P.info? e).bind fun i => (cOpd N x).map fun x => .px (.sarr n i.size x)
      | _, _, _ => none
    | _ => none
  | .extract x i => (cOpd N x).map fun x => .pu (.extr x i)
  | .call c => match c.callee with
    | .value f => (cOpd N f).bind fun f => (c.args.toList.mapM (cOpd N)).map fun xs => .ef (.call f xs)
    | .builtin .len => match c.args.toList, c.argTypes.toList with
      | [x], [t] => match P.underlying t with
        | some .string => (cOpd N x).map fun x => .pu (.lenS x)
        | some (.slice _) => (cOpd N x).map fun x => .pu (.lenR x)
        | some (.map _ _) => (cOpd N x).map fun x => .px (.lenM x)
        | _ => none
      | _, _ => none
    | .builtin .append => match c.args.toList, c.argTypes.toList with
      | [x, y], [t, ty] => match P.underlying t with
        | some (.slice e) => (P.info? e).bind fun i => i.zero.bind fun z => if z.cells.size = i.size ∧ 0 < i.bytes then
            (cOpd N x).bind fun x => (cOpd N y).bind fun y => match P.underlying ty with
              | some (.slice _) => some (.ef (if app then .appendA i.size i.bytes false x y else .append i.size i.bytes false x y))
              | some .string => if i.size = 1 then some (.ef (if app then .appendA i.size i.bytes true x y else .append i.size i.bytes true x y)) else none
              | _ => none else none
        | _ => none
      | _, _ => none
    | .builtin .clear => match c.args.toList, c.argTypes.toList with
      | [x], [t] => match P.underlying t with
        | some (.slice e) => (P.info? e).bind fun i => i.zero.bind fun z => (AV.ofCell z).bind fun za => if z.cells.toList.length = 1 ∧ z.oneCell' = true then (cOpd N x).map fun x => .ef (.clr za x) else none
        | _ => none
      | _, _ => none
    | .builtin .copy => match c.args.toList, c.argTypes.toList with
      | [x, y], [t, ty] => match P.underlying t, P.underlying ty with
        | some (.slice e), some (.slice _) => (P.info? e).bind fun i => (cOpd N x).bind fun x => (cOpd N y).map fun y => .ef (.copy i.size x y)
        | _, _ => none
      | _, _ => none
    | .builtin .min => match c.args.toList with
      | [x, y] => (cOpd N x).bind fun x => (cOpd N y).map fun y => .px (.imin x y)
      | _ => none
    | .builtin .max => match c.args.toList with
      | [x, y] => (cOpd N x).bind fun x => (cOpd N y).map fun y => .px (.imax x y)
      | _ => none
    | _ => none
  | _ => none

section
variable {W0 : World} {G0 : Ghost} {w0 : World} {N : Nat} {G G' : Ghost} {L : Nat → Option Nat} {st : AS} {H H' : AHeap} {ca : Act} {w w' : World} {P : Program}
variable {o : Oper} {K : AS → AHeap → Prop} {Q : Exit → Act → World → Prop} {hs : List Nat}

theorem cOpt_ok {x : Option Operand} {y : Option Opd} (h : cOpt N x = some y) : bdsOk N x y := by
  cases x with
  | none => simp [cOpt] at h; exact .inl ⟨rfl, h.symm⟩
  | some x =>
    simp only [cOpt, Option.map_eq_some_iff] at h
    obtain ⟨a, h1, h2⟩ := h
    exact .inr ⟨x, a, rfl, h2.symm, h1⟩

theorem pu_sound (h : Rel W0 G0 w0 N G L st H ca w) {e : PExp} {s : Sem Value} (he : execOp ca.eval o = (do pure (.value (← s)))) (hg : ∀ r, e.ev st H = some r → Gives P G L st w s r)
    (k : AOp.wp P W0 (.pu e) o.dst K st H) : o.wp P ca w (Post W0 G0 w0 N K) Q := by
  simp only [AOp.wp] at k
  split at k
  · rename_i r hr
    exact wp_gives h (hg r hr) he k
  · exact k.elim

theorem px_sound (h : Rel W0 G0 w0 N G L st H ca w) {e : XExp} {s : Sem Value} (he : execOp ca.eval o = (do pure (.value (← s)))) (hg : ∀ r, e.ev st H = some r → Gives P G L st w s r)
    (k : AOp.wp P W0 (.px e) o.dst K st H) : o.wp P ca w (Post W0 G0 w0 N K) Q := by
  simp only [AOp.wp] at k
  split at k
  · rename_i r hr
    exact wp_gives h (hg r hr) he k
  · exact k.elim

theorem cOp_sound (h : Rel W0 G0 w0 N G L st H ca w) {ao : AOp} (hny : ∀ f args tys f' b, o.op = .call ⟨.value f, args, tys⟩ → cOpd N f = some f' → st.ev f' ≠ .yfn b) (hc : cOp P N hs o = some ao) (hd : ∀ t, o.dst = some t → t < N) (k : ao.wp P W0 o.dst K st H) : o.wp P ca w (Post W0 G0 w0 N K) Q := by
  unfold cOp at hc
  cases ho : o.op with
  | move x =>
    simp only [ho, Option.map_eq_some_iff] at hc
    obtain ⟨y, hy, rfl⟩ := hc
    simp only [AOp.wp, PExp.ev] at k
    refine wp_value (v := ca.eval x) (by simp only [execOp, ho]; rfl) (.of (h.set o.dst (h.opd hy) (fun i off e => h.opd_loc hy e)) k)
  | assign x =>
    simp only [ho, Option.map_eq_some_iff] at hc
    obtain ⟨y, hy, rfl⟩ := hc
    simp only [AOp.wp, PExp.ev] at k
    refine wp_value (v := ca.eval x) (by simp only [execOp, ho]; rfl) (.of (h.set o.dst (h.opd hy) (fun i off e => h.opd_loc hy e)) k)
  | pick c a b =>
    simp only [ho, Option.bind_eq_some_iff, Option.map_eq_some_iff] at hc
    obtain ⟨c', hc', a', ha', b', hb', rfl⟩ := hc
    simp only [AOp.wp, PExp.ev] at k
    have h1 := h.opd hc'
    split at k
    · rename_i r hr
      split at hr
      · rename_i e
        rw [e] at h1
        cases hr
        exact wp_value (v := ca.eval a) (by simp [execOp, ho, h1.bool, asBool]) (.of (h.set o.dst (h.opd ha') (fun i off e => h.opd_loc ha' e)) k)
      · rename_i e
        rw [e] at h1
        cases hr
        exact wp_value (v := ca.eval b) (by simp [execOp, ho, h1.bool, asBool]) (.of (h.set o.dst (h.opd hb') (fun i off e => h.opd_loc hb' e)) k)
      · cases hr
    · exact k.elim
  | alloc t =>
    simp only [ho, Option.bind_eq_some_iff, Option.map_eq_some_iff] at hc
    obtain ⟨i, hi, z, hz, cs, hcs, rfl⟩ := hc
    obtain ⟨hv, h1⟩ := mapM_cells (G := G) hcs
    refine newVar_sound (ty := t) h hv h1 hd ?_ k
    simp [execOp, ho, Instr.alloc, zeroValue, typeInfo, hi, hz, newVar, newRow]
  | box t x =>
    simp only [ho, Option.map_eq_some_iff] at hc
    obtain ⟨y, hy, rfl⟩ := hc
    simp only [AOp.wp, EOp.wp] at k
    split at k
    · rename_i cs hcs
      have h2 : VRel G (st.ev y) (ca.eval x) := (h.opd hy).rel (fun t off e => by rw [e] at hcs; simp [AV.cells?, AV.one] at hcs)
      obtain ⟨hv, h1⟩ := h2.cells hcs
      refine newVar_sound (ty := t) h hv h1 hd ?_ k
      simp [execOp, ho, Instr.box, newVar, newRow]
    · exact k.elim
  | load t a =>
    simp only [ho, Option.bind_eq_some_iff, Option.map_eq_some_iff] at hc
    obtain ⟨d, hdd, i, hi, y, hy, rfl⟩ := hc
    refine pu_sound h (s := Instr.loadAt t (ca.eval a)) (by simp only [execOp, ho]) (fun r hr => ?_) k
    obtain ⟨v, hv, hr⟩ := load_sound h hdd hi hy hr
    exact .rel hv hr
  | store t a x =>
    simp only [ho, Option.bind_eq_some_iff, Option.map_eq_some_iff] at hc
    obtain ⟨i, hi, a', ha, x', hx, rfl⟩ := hc
    simp only [AOp.wp, EOp.wp] at k
    split at k
    · rename_i ns hns
      exact store_sound h hi ha hx ho hns k
    · exact k.elim
  | nilCheck x =>
    simp only [ho, Option.map_eq_some_iff] at hc
    obtain ⟨y, hy, rfl⟩ := hc
    simp only [AOp.wp] at k
    split at k
    · rename_i r hr
      obtain ⟨v, hv, h1, h2⟩ := nilck_sound (P := P) h hy hr o ho
      exact wp_value hv (.of (h.set o.dst h1 h2) k)
    · exact k.elim
  | binOp op t x y z =>
    simp only [ho] at hc
    have two : ∀ {a : AOp}, ((cOpd N x).bind fun x => (cOpd N y).map fun y => AOp.pu (.bin op x y)) = some a → AOp.wp P W0 a o.dst K st H → o.wp P ca w (Post W0 G0 w0 N K) Q := by
      intro a hc k
      simp only [Option.bind_eq_some_iff, Option.map_eq_some_iff] at hc
      obtain ⟨x', hx, y', hy, rfl⟩ := hc
      exact pu_sound h (s := do eqGuard op t x y (ca.eval x) (ca.eval y); binOp op t (ca.eval x) (ca.eval y)) (by simp only [execOp, ho]) (fun r hr => bin_sound h hx hy hr) k
    split at hc
    · exact two hc k
    · exact two hc k
    · split at hc
      · rename_i hop
        simp only [Option.bind_eq_some_iff, Option.map_eq_some_iff] at hc
        obtain ⟨ek, hek, x', hx, y', hy, rfl⟩ := hc
        refine px_sound h (s := do eqGuard op t x y (ca.eval x) (ca.eval y); binOp op t (ca.eval x) (ca.eval y)) (by simp only [execOp, ho]) (fun r hr => ?_) k
        simp only [XExp.ev, Option.map_eq_some_iff] at hr
        obtain ⟨b, hb, rfl⟩ := hr
        have := eqs_sound (P := P) h hx hy hek hb hop
        rcases hop with rfl | rfl <;> simpa using this
      · cases hc
  | build t parts =>
    simp only [ho] at hc
    split at hc
    · rename_i fields hf
      split at hc
      · rename_i hall
        simp only [Option.bind_eq_some_iff, Option.map_eq_some_iff] at hc
        obtain ⟨i, hi, z, hz, zc, hzc, pl, hpl, ys, hys, rfl⟩ := hc
        obtain ⟨hpll, hplg⟩ := mapM_get' hpl
        have key := fun r hr => build_sound (P := P) (r := r) h hf hi hz hzc (fun f hfm => List.all_eq_true.1 hall f hfm) hys (by simp) hpll (fun q j hq => by
          obtain ⟨y, hy1, hy2⟩ := hplg q j hq
          simp only [Option.map_eq_some_iff] at hy2
          obtain ⟨f, hff, rfl⟩ := hy2
          exact ⟨f, hff, hy1⟩) hr
        refine pu_sound h (s := Instr.build t (parts.map fun (i, x) => (i, ca.eval x))) (by simp only [execOp, ho]) (fun r hr => ?_) k
        have e : (((parts.toList.map (·.1)).zip ((parts.toList.map (·.2)).map ca.eval)).toArray) = parts.map fun (i, x) => (i, ca.eval x) := by
          apply Array.ext'
          simp [List.zip_map', List.zip_map]
        rw [← e]
        exact key r hr
      · cases hc
    · rename_i n e he
      simp only [Option.bind_eq_some_iff, Option.map_eq_some_iff] at hc
      obtain ⟨ei, hei, i, hi, z, hz, zc, hzc, ys, hys, rfl⟩ := hc
      have key := fun r hr => buildA_sound (P := P) (r := r) (idx := parts.toList.map (·.1)) h he hei hi hz hzc hys (by simp) (by simpa [List.map_map, Function.comp_def] using hr)
      refine pu_sound h (s := Instr.build t (parts.map fun (i, x) => (i, ca.eval x))) (by simp only [execOp, ho]) (fun r hr => ?_) k
      have e2 : (((parts.toList.map (·.1)).zip ((parts.toList.map (·.2)).map ca.eval)).toArray) = parts.map fun (i, x) => (i, ca.eval x) := by
        apply Array.ext'
        simp [List.zip_map', List.zip_map]
      rw [← e2]
      exact key r hr
    · cases hc
  | buildSlice t len parts =>
    simp only [ho] at hc
    split at hc
    · rename_i e he
      simp only [Option.bind_eq_some_iff] at hc
      obtain ⟨i, hi, z, hz, hc⟩ := hc
      split at hc
      · rename_i hcond
        simp only [Option.map_eq_some_iff] at hc
        obtain ⟨ys, hys, rfl⟩ := hc
        obtain ⟨hall, k⟩ := k
        have hpl : parts.toList.length = len := by have := congrArg List.length hcond.1; simpa using this
        obtain ⟨us, hrun, hrel⟩ := bslice_run (P := P) h he hi hz hys (by simp; rw [Array.length_toList] at hpl; rw [hpl]; exact hcond.2.1) (fun x hx => List.all_eq_true.1 hall x hx)
        have elen : (parts.toList.map (·.2)).length = len := by simpa using hpl
        rw [elen] at hrun
        have e2 : ((List.range len).zip ((parts.toList.map (·.2)).map ca.eval)).toArray = parts.map fun (i, x) => (i, ca.eval x) := by
          rw [← hcond.1]
          apply Array.ext'
          simp [List.zip_map', List.zip_map]
        rw [e2] at hrun
        have hlen : (ys.map st.ev).length = len := by rw [List.length_map, (mapM_get' hys).1]; exact elen
        obtain ⟨G', hn, hiv, hrow⟩ := h.inv.newRow (ys.map st.ev) i.size us [] e len (fun x hx => List.all_eq_true.1 hall x hx) hrel (by rw [List.append_nil, hrel.1, flat_length (fun x hx => List.all_eq_true.1 hall x hx), hlen]) (by omega)
          (by have := hcond.2.2; unfold maxLen; omega) false (by intro _; omega) 0
        simp only [List.append_nil] at hn hiv hrow
        refine wp_value0 (v := .slice (some ⟨w.heap.size, 0, none⟩) len len) (by simp only [execOp, ho]; simp only [Sem.run_bind, hrun, Result.andThen_ok, Sem.run_pure]; rfl) ?_
        refine ⟨_, _, k, _, _, (h.step hn (by simpa using hiv)).set o.dst (.of ?_) (by simp)⟩
        rw [hlen] at hrow
        simpa using hrow
      · cases hc
    · cases hc
  | makeFunc f first captured =>
    simp only [ho, Option.bind_eq_some_iff, Option.map_eq_some_iff] at hc
    obtain ⟨xs, hxs, ys, hys, rfl⟩ := hc
    exact pu_sound h (s := Instr.makeFunc f (first.map ca.eval) (captured.map ca.eval)) (by simp only [execOp, ho]) (fun r hr => by
      have := mkfn_sound (P := P) h hxs hys hr
      simpa using this) k
  | makeMap t r =>
    simp only [ho] at hc
    cases r with
    | some _ => cases hc
    | none =>
      cases hc
      exact mkmap_sound h (by simp [execOp, ho, Instr.makeMap]) k
  | makeInterface t x =>
    simp only [ho] at hc
    split at hc
    · cases hc
    · rename_i d hne hd
      simp only [Option.map_eq_some_iff] at hc
      obtain ⟨y, hy, rfl⟩ := hc
      refine px_sound h (s := Instr.makeInterface t (ca.eval x)) (by simp only [execOp, ho]) (fun r hr => ?_) k
      simp only [XExp.ev] at hr
      split at hr
      · rename_i hg
        cases hr
        refine .rel (v := .iface t (ca.eval x)) ?_ (.iface _ _ _ ((h.opd hy).rel (fun i off e => by rw [e] at hg; cases hg)))
        unfold Instr.makeInterface
        rw [Sem.run_bind, run_underlying hd]
        cases d <;> first | rfl | exact absurd rfl (hne _)
      · cases hr
    · cases hc
  | makeSlice t x y =>
    simp only [ho] at hc
    split at hc
    · rename_i e he
      simp only [Option.bind_eq_some_iff] at hc
      obtain ⟨i, hi, z, hz, zc, hzc, hc⟩ := hc
      split at hc
      · rename_i hzs
        simp only [Option.bind_eq_some_iff, Option.map_eq_some_iff] at hc
        obtain ⟨x', hx, y', hy, rfl⟩ := hc
        exact mksl_sound h he hi hz hzc hzs hx hy ho k
      · cases hc
    · cases hc
  | lookup t x i ok =>
    simp only [ho] at hc
    split at hc
    · rename_i kt et ht
      simp only [Option.bind_eq_some_iff, Option.map_eq_some_iff] at hc
      obtain ⟨sk, hsk, inf, hinf, z, hz, za, hza, x', hx, i', hi, rfl⟩ := hc
      refine px_sound h (s := Instr.lookup t (ca.eval x) (ca.eval i) ok) (by simp only [execOp, ho]) (fun r hr => ?_) k
      simp only [XExp.ev] at hr
      split at hr
      · rename_i es hes
        split at hr
        · rename_i hkey
          exact lookup_sound h ht (klaw_of hsk) hinf hz hza hx hi hes hkey hr
        · cases hr
      · cases hr
    · cases hc
  | mapUpdate t m key v =>
    simp only [ho] at hc
    split at hc
    · rename_i kt et ht
      simp only [Option.bind_eq_some_iff, Option.map_eq_some_iff] at hc
      obtain ⟨sk, hsk, m', hm, k', hk', v', hv, rfl⟩ := hc
      simp only [AOp.wp, EOp.wp] at k
      split at k
      · rename_i j hj
        exact mupd_sound h ht (klaw_of hsk) hm hk' hv hj (by simp only [execOp, ho]) k
      · exact k.elim
    · cases hc
  | insert t m key v =>
    simp only [ho] at hc
    split at hc
    · rename_i kt et ht
      simp only [Option.bind_eq_some_iff, Option.map_eq_some_iff] at hc
      obtain ⟨sk, hsk, m', hm, k', hk', v', hv, rfl⟩ := hc
      simp only [AOp.wp, EOp.wp] at k
      split at k
      · rename_i j hj
        exact mupd_sound h ht (klaw_of hsk) hm hk' hv hj (by simp only [execOp, ho]) k
      · exact k.elim
    · cases hc
  | range t x =>
    simp only [ho] at hc
    split at hc
    · rename_i kt et ht
      simp only [Option.map_eq_some_iff] at hc
      obtain ⟨y, hy, rfl⟩ := hc
      exact range_sound h ht hy (by simp only [execOp, ho]) k
    · cases hc
  | next x s =>
    cases s with
    | true => simp only [ho] at hc; cases hc
    | false =>
      simp only [ho, Option.map_eq_some_iff] at hc
      obtain ⟨y, hy, rfl⟩ := hc
      exact next_sound (ty := o.type) h hy (by simp only [execOp, ho]) k
  | entry x =>
    simp only [ho, Option.map_eq_some_iff] at hc
    obtain ⟨y, hy, rfl⟩ := hc
    exact px_sound (e := .entry y) h (s := Instr.entry (ca.eval x)) (by simp only [execOp, ho]) (fun r hr => entry_sound h hy hr) k
  | unOp op t x =>
    simp only [ho, Option.map_eq_some_iff] at hc
    obtain ⟨y, hy, rfl⟩ := hc
    exact pu_sound h (by simp only [execOp, ho]) (fun r hr => un_sound h hy hr) k
  | convert s d x =>
    simp only [ho] at hc
    split at hc
    · rename_i j k' hs' hd'
      simp only [Option.map_eq_some_iff] at hc
      obtain ⟨y, hy, rfl⟩ := hc
      exact pu_sound h (by simp only [execOp, ho]) (fun r hr => i2i_sound h hs' hd' hy hr) k
    · rename_i hs' hd'
      simp only [Option.map_eq_some_iff] at hc
      obtain ⟨y, hy, rfl⟩ := hc
      refine px_sound h (s := convert s d (ca.eval x)) (by simp only [execOp, ho]) (fun r hr => ?_) k
      simp only [XExp.ev] at hr
      have h1 := h.opd hy
      split at hr
      · rename_i l e
        cases hr
        rw [e] at h1
        obtain ⟨e1, hl⟩ := h1.str
        rw [e1]
        refine .rel ?_ (.str l hl)
        simp [convert, run_underlying hs', run_underlying hd']
        rfl
      · cases hr
    · rename_i e hs' hd'
      split at hc
      · rename_i he
        simp only [Option.map_eq_some_iff] at hc
        obtain ⟨y, hy, rfl⟩ := hc
        exact s2b_sound h hs' hd' he hy (by simp only [execOp, ho]) k
      · cases hc
    · rename_i e hs' hd'
      split at hc
      · rename_i he
        simp only [Option.map_eq_some_iff] at hc
        obtain ⟨y, hy, rfl⟩ := hc
        exact px_sound (e := .b2s y) h (s := convert s d (ca.eval x)) (by simp only [execOp, ho]) (fun r hr => b2s_sound h hs' he hd' hy hr) k
      · cases hc
    · cases hc
  | fieldAddr s x n =>
    simp only [ho] at hc
    split at hc
    · rename_i fields hf
      simp only [Option.bind_eq_some_iff] at hc
      obtain ⟨f, hff, i, hi, hc⟩ := hc
      split at hc
      · cases hc
      · rename_i hz
        simp only [Option.map_eq_some_iff] at hc
        obtain ⟨y, hy, rfl⟩ := hc
        exact pu_sound h (by simp only [execOp, ho]) (fun r hr => off_sound h hf hff hi hz hy hr) k
    · cases hc
  | field s x n =>
    simp only [ho] at hc
    split at hc
    · rename_i fields hf
      simp only [Option.bind_eq_some_iff, Option.map_eq_some_iff] at hc
      obtain ⟨f, hff, d, hd, i, hi, y, hy, rfl⟩ := hc
      exact px_sound (e := .fld f.offset (if d.isRow then some i.size else none) y) h (s := Instr.field s (ca.eval x) n) (by simp only [execOp, ho]) (fun r hr => fld_sound h hf hff hd hi hy hr) k
    · cases hc
  | indexAddr t x i =>
    simp only [ho] at hc
    split at hc
    · rename_i e he
      simp only [Option.bind_eq_some_iff, Option.map_eq_some_iff] at hc
      obtain ⟨inf, hi, x', hx, y', hy, rfl⟩ := hc
      exact pu_sound h (by simp only [execOp, ho]) (fun r hr => iaddr_sound h he hi hx hy hr) k
    · rename_i n e he
      simp only [Option.bind_eq_some_iff, Option.map_eq_some_iff] at hc
      obtain ⟨inf, hi, x', hx, y', hy, rfl⟩ := hc
      refine px_sound (e := .aaddr n inf.size x' y') h (s := Instr.indexAt t (ca.eval x) (ca.eval i)) (by simp only [execOp, ho]) (fun r hr => aaddr_sound h he hi hx hy hr) k
    · cases hc
  | index t x i =>
    simp only [ho] at hc
    split at hc
    · rename_i he
      simp only [Option.bind_eq_some_iff, Option.map_eq_some_iff] at hc
      obtain ⟨x', hx, y', hy, rfl⟩ := hc
      exact pu_sound h (by simp only [execOp, ho]) (fun r hr => idxS_sound h he hx hy hr) k
    · cases hc
  | slice t x lo hi mx =>
    simp only [ho] at hc
    split at hc
    · rename_i he
      split at hc
      · simp only [Option.bind_eq_some_iff, Option.map_eq_some_iff] at hc
        obtain ⟨x', hx, lo', hlo, hi', hhi, rfl⟩ := hc
        exact pu_sound h (by simp only [execOp, ho]; rfl) (fun r hr => slS_sound h he hx (cOpt_ok hlo) (cOpt_ok hhi) hr) k
      · cases hc
    · rename_i e he
      simp only [Option.bind_eq_some_iff, Option.map_eq_some_iff] at hc
      obtain ⟨inf, hinf, x', hx, lo', hlo, hi', hhi, mx', hmx, rfl⟩ := hc
      exact pu_sound h (by simp only [execOp, ho]) (fun r hr => slR_sound h he hinf hx (cOpt_ok hlo) (cOpt_ok hhi) (cOpt_ok hmx) hr) k
    · rename_i n e he
      split at hc
      · simp only [Option.bind_eq_some_iff, Option.map_eq_some_iff] at hc
        obtain ⟨inf, hinf, x', hx, rfl⟩ := hc
        exact px_sound (e := .sarr n inf.size x') h (s := Instr.sliceAt t (ca.eval x) none none none) (by simp only [execOp, ho]; rfl) (fun r hr => sarr_sound h he hinf hx hr) k
      · cases hc
    · cases hc
  | extract x i =>
    simp only [ho, Option.map_eq_some_iff] at hc
    obtain ⟨y, hy, rfl⟩ := hc
    exact pu_sound h (by simp only [execOp, ho]) (fun r hr => extr_sound h hy hr) k
  | call c =>
    obtain ⟨callee, args, argTypes⟩ := c
    simp only [ho] at hc
    split at hc
    · rename_i f
      simp only [Option.bind_eq_some_iff, Option.map_eq_some_iff] at hc
      obtain ⟨f', hf, xs, hxs, rfl⟩ := hc
      exact call_sound (tys := argTypes) h hf hxs (by simpa using ho) (fun b => hny _ _ _ _ b ho hf) k
    · split at hc
      · rename_i x t ha ht
        have ea : args = #[x] := by cases args; simpa using ha
        have et : argTypes = #[t] := by cases argTypes; simpa using ht
        subst ea et
        have ex : ∀ q, execOp ca.eval o = (do pure (.value (← Builtin.len_ #[t] o.type #[ca.eval x]))) ∨ q := fun q => .inl (by
          simp [execOp, ho, resolve, invoke, builtin])
        split at hc
        · rename_i he
          simp only [Option.map_eq_some_iff] at hc
          obtain ⟨y, hy, rfl⟩ := hc
          exact pu_sound h ((ex False).resolve_right id) (fun r hr => lenS_sound h he hy hr) k
        · rename_i e he
          simp only [Option.map_eq_some_iff] at hc
          obtain ⟨y, hy, rfl⟩ := hc
          exact pu_sound h ((ex False).resolve_right id) (fun r hr => lenR_sound h he hy hr) k
        · rename_i e f he
          simp only [Option.map_eq_some_iff] at hc
          obtain ⟨y, hy, rfl⟩ := hc
          refine px_sound h ((ex False).resolve_right id) (fun r hr => ?_) k
          simp only [XExp.ev, Option.map_eq_some_iff] at hr
          obtain ⟨es, hes, rfl⟩ := hr
          exact lenM_sound h he hy hes
        · cases hc
      · cases hc
    · split at hc
      · rename_i x y t ty ha ht
        have ea : args = #[x, y] := by cases args; simpa using ha
        have et : argTypes = #[t, ty] := by cases argTypes; simpa using ht
        subst ea et
        split at hc
        · rename_i e he
          simp only [Option.bind_eq_some_iff] at hc
          obtain ⟨i, hi, z, hz, hc⟩ := hc
          split at hc
          · rename_i hcond
            simp only [Option.bind_eq_some_iff] at hc
            obtain ⟨x', hx, y', hy, hc⟩ := hc
            have hop : execOp ca.eval o = (do pure (.value (← Builtin.append_ #[t, ty] o.type #[ca.eval x, ca.eval y]))) := by
              simp [execOp, ho, resolve, invoke, builtin]
            split at hc
            · rename_i e' he'
              cases hc
              generalize (match o.dst with | some t => hs.contains (N + t) | none => false) = app at k
              cases app
              all_goals
                simp only [Bool.false_eq_true, if_false, if_true, AOp.wp, EOp.wp] at k
                obtain ⟨hstr, k⟩ := k
                split at k
                · rename_i ys hys
                  obtain ⟨hsz, news, hn, hs⟩ := src_sound (t := ty) (e := e) h hy (.inl ⟨e', he'⟩) (fun q => by rw [he'] at q; cases q) (fun _ s q => by rw [q] at hstr; cases hstr) hys
                  first
                    | exact append_sound h he hi hz hcond.1 hcond.2 hx hy hop hsz hn hs k
                    | exact appendA_sound h he hi hz hcond.1 hcond.2 hx hy hop hsz hn hs k
                · exact k.elim
            · rename_i he'
              split at hc
              · rename_i hone
                cases hc
                generalize (match o.dst with | some t => hs.contains (N + t) | none => false) = app at k
                cases app
                all_goals
                  simp only [Bool.false_eq_true, if_false, if_true, AOp.wp, EOp.wp] at k
                  obtain ⟨hstr, k⟩ := k
                  split at k
                  · rename_i ys hys
                    obtain ⟨hsz, news, hn, hs⟩ := src_sound (t := ty) (e := e) h hy (.inr ⟨he', hone⟩) (fun q => by
                      generalize st.ev y' = a at *
                      cases a <;> simp [AV.isStr] at hstr
                      exact ⟨_, rfl⟩) (fun ⟨e', q⟩ => by rw [he'] at q; cases q) hys
                    first
                      | exact append_sound h he hi hz hcond.1 hcond.2 hx hy hop hsz hn hs k
                      | exact appendA_sound h he hi hz hcond.1 hcond.2 hx hy hop hsz hn hs k
                  · exact k.elim
              · cases hc
            · cases hc
          · cases hc
        · cases hc
      · cases hc
    · split at hc
      · rename_i x t ha ht
        have ea : args = #[x] := by cases args; simpa using ha
        have et : argTypes = #[t] := by cases argTypes; simpa using ht
        subst ea et
        split at hc
        · rename_i e he
          simp only [Option.bind_eq_some_iff] at hc
          obtain ⟨i, hi, z, hz, za, hza, hc⟩ := hc
          split at hc
          · rename_i hone
            simp only [Option.map_eq_some_iff] at hc
            obtain ⟨x', hx, rfl⟩ := hc
            have hzc : z.cells = #[z] := by
              have := hone.2
              cases z <;> simp_all [Value.cells, Value.oneCell']
            exact clr_sound h he hi hz hzc hza hx (by simp [execOp, ho, resolve, invoke, builtin]) k
          · cases hc
        · cases hc
      · cases hc
    · split at hc
      · rename_i x y t ty ha ht
        have ea : args = #[x, y] := by cases args; simpa using ha
        have et : argTypes = #[t, ty] := by cases argTypes; simpa using ht
        subst ea et
        split at hc
        · rename_i e e' he he'
          simp only [Option.bind_eq_some_iff, Option.map_eq_some_iff] at hc
          obtain ⟨i, hi, x', hx, y', hy, rfl⟩ := hc
          simp only [AOp.wp, EOp.wp] at k
          obtain ⟨hstr, k⟩ := k
          split at k
          · rename_i ys hys
            obtain ⟨hsz, news, hn, hs⟩ := src_sound (t := ty) (e := e) h hy (.inl ⟨e', he'⟩) (fun q => by rw [he'] at q; cases q) (fun _ s q => by rw [q] at hstr; cases hstr) hys
            exact copy_sound h he hi hx (by simp [execOp, ho, resolve, invoke, builtin]) hsz hn hs k
          · exact k.elim
        · cases hc
      · cases hc
    · split at hc
      · rename_i x y ha
        have ea : args = #[x, y] := by cases args; simpa using ha
        subst ea
        simp only [Option.bind_eq_some_iff, Option.map_eq_some_iff] at hc
        obtain ⟨x', hx, y', hy, rfl⟩ := hc
        refine px_sound h (s := Builtin.min_ argTypes o.type #[ca.eval x, ca.eval y]) (by simp [execOp, ho, resolve, invoke, builtin]) (fun r hr => ?_) k
        have h1 := h.opd hx
        have h2 := h.opd hy
        simp only [XExp.ev] at hr
        split at hr
        · rename_i e1 e2
          split at hr
          · rename_i hk
            cases hr
            rw [e1] at h1; rw [e2] at h2
            rw [h1.int, h2.int]
            exact .rel (by simp [Builtin.min_, Builtin.min2]) (.int _ _)
          · cases hr
        · cases hr
      · cases hc
    · split at hc
      · rename_i x y ha
        have ea : args = #[x, y] := by cases args; simpa using ha
        subst ea
        simp only [Option.bind_eq_some_iff, Option.map_eq_some_iff] at hc
        obtain ⟨x', hx, y', hy, rfl⟩ := hc
        refine px_sound h (s := Builtin.max_ argTypes o.type #[ca.eval x, ca.eval y]) (by simp [execOp, ho, resolve, invoke, builtin]) (fun r hr => ?_) k
        have h1 := h.opd hx
        have h2 := h.opd hy
        simp only [XExp.ev] at hr
        split at hr
        · rename_i e1 e2
          split at hr
          · rename_i hk
            cases hr
            rw [e1] at h1; rw [e2] at h2
            rw [h1.int, h2.int]
            exact .rel (by simp [Builtin.max_, Builtin.max2]) (.int _ _)
          · cases hr
        · cases hr
      · cases hc
    · cases hc
  | _ => simp only [ho] at hc; cases hc

theorem cOp_sound_in {n : Nat} {ro : Option Nat} (h : Rel W0 G0 w0 N G L st H ca w) {ao : AOp} (hc : cOp P N hs o = some ao) (hd : ∀ t, o.dst = some t → t < N) (k : ao.wp P W0 o.dst K st H) : o.wpIn (RF ro) n P ca w (Post W0 G0 w0 N K) Q := by
  by_cases hq : ∃ f args tys f' b, o.op = .call ⟨.value f, args, tys⟩ ∧ cOpd N f = some f' ∧ st.ev f' = .yfn b
  · obtain ⟨f, args, tys, f', b, ho, hf, hb⟩ := hq
    unfold cOp at hc
    simp only [ho, Option.bind_eq_some_iff, Option.map_eq_some_iff] at hc
    obtain ⟨f2, hf2, ys, hys, rfl⟩ := hc
    rw [hf] at hf2
    cases hf2
    exact yield_sound (xs := args.toList) (tys := tys) h hf hys (by simpa using ho) hb k
  · refine oper_rf (fun c e => ?_) (cOp_sound h (fun f args tys f' b ho hf hb => hq ⟨f, args, tys, f', b, ho, hf, hb⟩) hc hd k)
    unfold cOp at hc
    simp [e] at hc
end
end Go.Qa
