/- The abstract machine: a run that the kernel can reckon: operations that turn memory. -/
import Derived.Test.YtanfmlmcddanjaaGreatDoorRQaEvA
set_option linter.all false
namespace Go.Qa
open Go Go.RowKit

/-- A function's run (true), or a round of a loop over a function (false). -/
abbrev GoE := Bool → Nat → List AV → EH → Option (AV × EH)
def GoOk (P : Program) (W0 : World) (go : GoE) : Prop :=
  (∀ f args h r h', go true f args h = some (r, h') → ACalls P W0 f args h.list fun r' H' => r' = r ∧ H' = h'.list) ∧
  (∀ b args h r h', go false b args h = some (r, h') → AYields P W0 b args h.list fun r' H' => r' = r ∧ H' = h'.list)

noncomputable def srcE (h : EH) (esz : Nat) (x : AV) : Option (List AV) :=
  match x with
  | .row _ _ sz es => sel (Nat.beq sz esz) (some es) none
  | .pl (.slice none 0 _) => some []
  | .str s => sel (Nat.beq esz 1) (some (s.map fun b => .int .u8 b.toNat)) none
  | .arr b start len sz => sel (Nat.beq sz 1 && Nat.beq esz 1) (match h.get b with
      | some (.cells cs) => sel (Nat.ble (start + len) cs.length) (some ((cs.drop start).take len)) none
      | _ => none) none
  | _ => none
theorem srcE_ok {st : AS} {h : EH} {esz : Nat} {x : AV} : st.src h.list esz x = srcE h esz x := by
  unfold AS.src srcE
  simp only [EH.get_list, sel_eq, Nat.beq_eq, Bool.and_eq_true, Nat.ble_eq]
  rfl
noncomputable def appE (esz bytes : Nat) (x : AV) (ys : List AV) (h : EH) : Option (AV × EH) :=
  match ys with
  | [] => sel x.isSlice (some (x, h)) none
  | y :: r => match x with
    | .pl (.slice none 0 0) => sel (Nat.ble ((y :: r).length * bytes) roomMax) (some (.row (some (h.n, (y :: r).length)) false esz (y :: r), h.push (.row (y :: r).length))) none
    | .row own full sz es => sel (Nat.beq sz esz && Nat.ble ((es.length + (y :: r).length) * bytes) roomMax) (match full, own with
        | true, _ => some (.row (some (h.n, es.length + (y :: r).length)) false esz (es ++ (y :: r)), h.push (.row (es.length + (y :: r).length)))
        | false, some (t, k) => match h.get t with
          | some (.row k') => sel (Nat.beq k' k) (some (.row (some (h.n, es.length + (y :: r).length)) false esz (es ++ (y :: r)), (h.set t AObj.dead).push (.row (es.length + (y :: r).length)))) none
          | _ => none
        | false, none => none) none
    | _ => none
noncomputable def appAE (esz bytes : Nat) (x : AV) (ys : List AV) (h : EH) : Option (AV × EH) :=
  match ys with
  | [] => sel x.isSlice (some (x, h)) none
  | y :: r => match x with
    | .pl (.slice none 0 0) => sel (Nat.ble ((y :: r).length * bytes) roomMax) (some (.arr h.n 0 (y :: r).length esz, h.push (.cells (flat (y :: r))))) none
    | .row own full sz es => sel (Nat.beq sz esz && full && Nat.ble ((es.length + (y :: r).length) * bytes) roomMax) (some (.arr h.n 0 (es.length + (y :: r).length) esz, h.push (.cells (flat es ++ flat (y :: r))))) none
    | .arr b start len sz => match h.get b with
      | some (.cells cs) => sel (Nat.beq sz esz && Nat.beq start 0 && Nat.ble ((len + (y :: r).length) * bytes) roomMax && Nat.ble (len * esz) cs.length)
          (some (.arr h.n 0 (len + (y :: r).length) esz, (h.set b AObj.dead).push (.cells (cs.take (len * esz) ++ flat (y :: r))))) none
      | _ => none
    | _ => none
noncomputable def mkslE (esz bytes : Nat) (zero : List AV) (len cap : AV) (h : EH) : Option (AV × EH) :=
  match len, cap with
  | .int _ l, .int _ c => if 0 ≤ l ∧ l ≤ c ∧ c.toNat * bytes ≤ roomMax ∧ c.toNat ≤ maxLen then some (.arr h.n 0 l.toNat esz, h.push (.cells (made zero (c.toNat * esz)))) else none
  | _, _ => none
noncomputable def storeE (n : Nat) (x : AV) (ns : List AV) (h : EH) : Option (AV × EH) :=
  match x with
  | .ref b o => match h.get b with
    | some (.cells cs) => sel (Nat.beq ns.length n && Nat.ble (o + n) cs.length) (some (.pl undef, h.set b (.cells (over cs o ns)))) none
    | _ => none
  | _ => none
noncomputable def clrE (za : AV) (x : AV) (h : EH) : Option (AV × EH) :=
  match x with
  | .arr b start len sz => match h.get b with
    | some (.cells cs) => sel (Nat.beq sz 1 && Nat.blt 0 len && Nat.ble (start + len) cs.length) (some (.pl undef, h.set b (.cells (over cs start (List.replicate len za))))) none
    | _ => none
  | .row _ _ _ [] => some (.pl undef, h)
  | _ => none
noncomputable def copyE (esz : Nat) (x : AV) (ys : List AV) (h : EH) : Option (AV × EH) :=
  match x with
  | .arr b start len sz => match h.get b with
    | some (.cells cs) => sel (Nat.beq sz esz && Nat.ble ys.length len && Nat.ble (start * esz + (flat ys).length) cs.length) (some (.int .i64 (.ofNat ys.length), h.set b (.cells (over cs (start * esz) (flat ys))))) none
    | _ => none
  | .pl (.slice none 0 0) => match ys with
    | [] => some (.int .i64 0, h)
    | _ :: _ => none
  | _ => none
noncomputable def mupdE (k : KK) (m : AV) (key val : AV) (h : EH) : Option (AV × EH) :=
  match m with
  | .map m => match h.get m with
    | some (.map es clock) => sel (keyOk k key && val.glob) (match findAV k key es 0 with
      | some (some (i, _)) => some (.pl undef, h.set m (.map (es.modify i fun e => (key, val, e.2.2)) clock))
      | some none => some (.pl undef, h.set m (.map (es ++ [(key, val, clock)]) (clock + 1)))
      | none => none) none
    | _ => none
  | _ => none
noncomputable def rangeE (x : AV) (h : EH) : Option (AV × EH) :=
  match x with
  | .pl (.map none) => some (.itr h.n, h.push (.iter none 0 [] 0))
  | .map m => match h.get m with
    | some (.map _ clock) => some (.itr h.n, h.push (.iter (some m) clock [] clock))
    | _ => none
  | _ => none
noncomputable def nextE (x : AV) (h : EH) : Option (AV × EH) :=
  match x with
  | .itr r => match h.get r with
    | some (.iter none _ _ _) => some (.tup [.bool false], h)
    | some (.iter (some m) since seen last) => match h.get m with
      | some (.map es clock) => sel (seen.isEmpty || es.isEmpty || es.any fun e => Nat.blt e.2.2 last) (match candAV es since seen with
        | [none] => some (.tup [.bool false], h)
        | [some e] => some (.tup [.bool true, e.1, e.2.1], h.set r (.iter (some m) since (seen ++ [e.2.2]) clock))
        | _ => none) none
      | _ => none
    | _ => none
  | _ => none
noncomputable def callE (go : GoE) (f : AV) (args : List AV) (h : EH) : Option (AV × EH) :=
  match f with
  | .fn (.func g) first captured => sel ((first ++ args ++ captured).all AV.glob) (go true g (first ++ args ++ captured) h) none
  | .yfn b => sel (args.all AV.glob) (go false b args h) none
  | _ => none
noncomputable def EOp.evE (go : GoE) (op : EOp) (st : AS) (h : EH) : Option (AV × EH) :=
  match op with
  | .alloc heap zero => sel heap (some (.ref h.n 0, h.push (.cells zero))) none
  | .box heap x => match (st.ev x).cells? with
    | some cs => sel heap (some (.ref h.n 0, h.push (.cells cs))) none
    | none => none
  | .store n x v => match (st.ev v).cells? with
    | some ns => storeE n (st.ev x) ns h
    | none => none
  | .call f args => callE go (st.ev f) (args.map st.ev) h
  | .bslice esz xs => sel ((xs.map st.ev).all (AV.isSize esz)) (some (.row none true esz (xs.map st.ev), h)) none
  | .append esz bytes str x y => match srcE h esz (st.ev y) with
    | some ys => sel ((st.ev y).isStr == str) (appE esz bytes (st.ev x) ys h) none
    | none => none
  | .appendA esz bytes str x y => match srcE h esz (st.ev y) with
    | some ys => sel ((st.ev y).isStr == str) (appAE esz bytes (st.ev x) ys h) none
    | none => none
  | .mksl esz bytes zero len cap => mkslE esz bytes zero (st.ev len) (st.ev cap) h
  | .mkmap => some (.map h.n, h.push (.map [] 0))
  | .copy esz x y => match srcE h esz (st.ev y) with
    | some ys => sel ((st.ev y).isStr == false) (copyE esz (st.ev x) ys h) none
    | none => none
  | .clr za x => clrE za (st.ev x) h
  | .mupd k m key val => mupdE k (st.ev m) (st.ev key) (st.ev val) h
  | .range x => rangeE (st.ev x) h
  | .next x => nextE (st.ev x) h
  | .s2b arr x => match st.ev x with
    | .str s => sel arr (some (.arr h.n 0 s.length 1, h.push (.cells (s.map byteAV)))) (some (.row none false 1 (s.map byteAV), h))
    | _ => none
  | .no => none
noncomputable def AOp.evE (go : GoE) (op : AOp) (st : AS) (h : EH) : Option (AV × EH) :=
  match op with
  | .pu e => match e.evE st h with
    | some r => some (r, h)
    | none => none
  | .px e => match e.evE st h with
    | some r => some (r, h)
    | none => none
  | .ef e => e.evE go st h
noncomputable def AOper.evE (go : GoE) (o : AOper) (st : AS) (h : EH) : Option (AV × EH) :=
  match o.guard with
  | none => o.op.evE go st h
  | some (t, want) => match st.s t with
    | .bool b => sel (b == want) (o.op.evE go st h) (some (.pl undef, h))
    | .pl (.tuple _) => some (.pl undef, h)
    | _ => none

section
variable {P : Program} {W0 : World} {go : GoE} {st : AS} {h h' : EH} {r : AV} {d : Option Nat} {K : AS → AHeap → Prop}

theorem sel_some {α : Type} {b : Bool} {x : Option α} {y : α} (e : sel b x none = some y) : b = true ∧ x = some y := by
  cases b with
  | true => exact ⟨rfl, e⟩
  | false => cases e
theorem storeE_ok {n : Nat} {x : AV} {ns : List AV} (e : storeE n x ns h = some (r, h')) (k : K (st.set d r) h'.list) : storeAV n x ns d K st h.list := by
  unfold storeE at e
  split at e
  · rename_i b o
    split at e
    · rename_i cs hb
      obtain ⟨q, e⟩ := sel_some e
      simp only [Bool.and_eq_true, Nat.beq_eq, Nat.ble_eq] at q
      cases e
      refine ⟨q.1, ?_⟩
      simp only [EH.get_list, hb]
      refine ⟨q.2, ?_⟩
      rwa [EH.set_list _ _ _ (by rw [hb]; simp)] at k
    · cases e
  · cases e
theorem clrE_ok {za x : AV} (e : clrE za x h = some (r, h')) (k : K (st.set d r) h'.list) : clrAV za x d K st h.list := by
  unfold clrE at e
  split at e
  · rename_i b start len sz
    split at e
    · rename_i cs hb
      obtain ⟨q, e⟩ := sel_some e
      simp only [Bool.and_eq_true, Nat.beq_eq, Nat.ble_eq, Nat.blt_eq] at q
      cases e
      refine ⟨q.1.1, q.1.2, ?_⟩
      simp only [EH.get_list, hb]
      refine ⟨q.2, ?_⟩
      rwa [EH.set_list _ _ _ (by rw [hb]; simp)] at k
    · cases e
  · cases e; exact k
  · cases e
theorem copyE_ok {esz : Nat} {x : AV} {ys : List AV} (e : copyE esz x ys h = some (r, h')) (k : K (st.set d r) h'.list) : copyAV esz x ys d K st h.list := by
  unfold copyE at e
  split at e
  · rename_i b start len sz
    split at e
    · rename_i cs hb
      obtain ⟨q, e⟩ := sel_some e
      simp only [Bool.and_eq_true, Nat.beq_eq, Nat.ble_eq] at q
      cases e
      refine ⟨q.1.1, q.1.2, ?_⟩
      simp only [EH.get_list, hb]
      refine ⟨q.2, ?_⟩
      rwa [EH.set_list _ _ _ (by rw [hb]; simp)] at k
    · cases e
  · split at e
    · cases e; exact ⟨rfl, k⟩
    · cases e
  · cases e
theorem appE_ok {esz bytes : Nat} {x : AV} {ys : List AV} (e : appE esz bytes x ys h = some (r, h')) (k : K (st.set d r) h'.list) : appendAV esz bytes x ys d K st h.list := by
  cases ys with
  | nil =>
    obtain ⟨q, e⟩ := sel_some e
    cases e
    exact ⟨fun _ => ⟨q, k⟩, fun q => absurd rfl q⟩
  | cons y ys =>
    refine ⟨fun q => (by cases q), fun _ => ?_⟩
    simp only [appE] at e
    split at e
    · obtain ⟨q, e⟩ := sel_some e
      cases e
      rw [EH.push_list] at k
      refine ⟨by simpa using q, ?_⟩
      rw [EH.length_list]; exact k
    · rename_i own full sz es
      obtain ⟨q, e⟩ := sel_some e
      simp only [Bool.and_eq_true, Nat.beq_eq, Nat.ble_eq] at q
      refine ⟨q.1, q.2, ?_⟩
      split at e
      · cases e
        rw [EH.push_list] at k
        simp only [EH.length_list]; exact k
      · rename_i t n
        split at e
        · rename_i n' hb
          obtain ⟨q2, e⟩ := sel_some e
          cases e
          simp only [Nat.beq_eq] at q2
          subst q2
          refine ⟨by rw [EH.get_list]; exact hb, ?_⟩
          rw [EH.push_list, EH.set_list _ _ _ (by rw [hb]; simp)] at k
          rw [EH.length_list]; exact k
        · cases e
      · cases e
    · cases e
theorem appAE_ok {esz bytes : Nat} {x : AV} {ys : List AV} (e : appAE esz bytes x ys h = some (r, h')) (k : K (st.set d r) h'.list) : appendArr esz bytes x ys d K st h.list := by
  cases ys with
  | nil =>
    obtain ⟨q, e⟩ := sel_some e
    cases e
    exact ⟨fun _ => ⟨q, k⟩, fun q => absurd rfl q⟩
  | cons y ys =>
    refine ⟨fun q => (by cases q), fun _ => ?_⟩
    simp only [appAE] at e
    split at e
    · obtain ⟨q, e⟩ := sel_some e
      cases e
      rw [EH.push_list] at k
      refine ⟨by simpa using q, ?_⟩
      rw [EH.length_list]; exact k
    · obtain ⟨q, e⟩ := sel_some e
      simp only [Bool.and_eq_true, Nat.beq_eq, Nat.ble_eq] at q
      cases e
      rw [EH.push_list] at k
      refine ⟨q.1.1, q.1.2, q.2, ?_⟩
      rw [EH.length_list]; exact k
    · split at e
      · rename_i cs hb
        obtain ⟨q, e⟩ := sel_some e
        simp only [Bool.and_eq_true, Nat.beq_eq, Nat.ble_eq] at q
        cases e
        refine ⟨q.1.1.1, q.1.1.2, q.1.2, ?_⟩
        simp only [EH.get_list, hb]
        refine ⟨q.2, ?_⟩
        rw [EH.push_list, EH.set_list _ _ _ (by rw [hb]; simp)] at k
        rw [EH.length_list]; exact k
      · cases e
    · cases e
theorem mkslE_ok {esz bytes : Nat} {zero : List AV} {x y : AV} (e : mkslE esz bytes zero x y h = some (r, h')) (k : K (st.set d r) h'.list) : mkslAV esz bytes zero x y d K st h.list := by
  unfold mkslE at e
  split at e
  · split at e
    · rename_i q
      cases e
      rw [EH.push_list] at k
      refine ⟨q.1, q.2.1, q.2.2.1, q.2.2.2, ?_⟩
      rw [EH.length_list]; exact k
    · cases e
  · cases e
theorem mupdE_ok {sk : KK} {m key val : AV} (e : mupdE sk m key val h = some (r, h')) (k : K (st.set d r) h'.list) : ∃ i, m = .map i ∧ mupdAV sk i key val d K st h.list := by
  cases m with
  | map m =>
    simp only [mupdE] at e
    cases hb : h.get m with
    | none => rw [hb] at e; cases e
    | some ob =>
      rw [hb] at e
      cases ob with
      | map es clock =>
        obtain ⟨q, e⟩ := sel_some e
        simp only [Bool.and_eq_true] at q
        refine ⟨m, rfl, q.1, q.2, ?_⟩
        simp only [EH.get_list, hb]
        split at e
        · rename_i hf
          cases e
          simp only [hf]
          rwa [EH.set_list _ _ _ (by rw [hb]; simp)] at k
        · rename_i hf
          cases e
          simp only [hf]
          rwa [EH.set_list _ _ _ (by rw [hb]; simp)] at k
        · cases e
      | _ => cases e
  | _ => cases e
theorem rangeE_ok {x : AV} (e : rangeE x h = some (r, h')) (k : K (st.set d r) h'.list) : rangeAV x d K st h.list := by
  unfold rangeE at e
  split at e
  · cases e
    rw [EH.push_list] at k
    simp only [rangeAV, EH.length_list]; exact k
  · rename_i m
    split at e
    · rename_i es clock hb
      cases e
      rw [EH.push_list] at k
      simp only [rangeAV, EH.get_list, hb, EH.length_list]; exact k
    · cases e
  · cases e
theorem nextE_ok {x : AV} (e : nextE x h = some (r, h')) (k : K (st.set d r) h'.list) : nextAV x d K st h.list := by
  unfold nextE at e
  split at e
  · rename_i i
    split at e
    · rename_i hb
      cases e
      simp only [nextAV, EH.get_list, hb]; exact k
    · rename_i m since seen last hb
      split at e
      · rename_i es clock hm
        obtain ⟨q, e⟩ := sel_some e
        simp only [nextAV, EH.get_list, hb, hm]
        refine ⟨?_, ?_⟩
        · simp only [Bool.or_eq_true, List.isEmpty_iff, List.any_eq_true] at q
          rcases q with (q | q) | ⟨e, he, q⟩
          · exact .inl q
          · exact .inr (.inl q)
          · exact .inr (.inr ⟨e, he, blt_iff.1 q⟩)
        · split at e
          · rename_i hc
            cases e
            rw [hc]
            intro c hc
            rw [List.mem_singleton] at hc
            subst hc
            exact k
          · rename_i hc
            cases e
            rw [hc]
            intro c hc
            rw [List.mem_singleton] at hc
            subst hc
            rw [EH.set_list _ _ _ (by rw [hb]; simp)] at k
            exact k
          · cases e
      · cases e
    · cases e
  · cases e
theorem callE_ok (hgo : GoOk P W0 go) {f : AV} {args : List AV} (e : callE go f args h = some (r, h')) (k : K (st.set d r) h'.list) : callAV P W0 f args d K st h.list := by
  unfold callE at e
  split at e
  · obtain ⟨q, e⟩ := sel_some e
    exact ⟨q, (hgo.1 _ _ _ _ _ e).mono fun r' H' ⟨a, b⟩ => by subst a; subst b; exact k⟩
  · obtain ⟨q, e⟩ := sel_some e
    exact ⟨q, (hgo.2 _ _ _ _ _ e).mono fun r' H' ⟨a, b⟩ => by subst a; subst b; exact k⟩
  · cases e
theorem EOp.evE_ok (hgo : GoOk P W0 go) {op : EOp} (e : op.evE go st h = some (r, h')) (k : K (st.set d r) h'.list) : op.wp P W0 d K st h.list := by
  cases op with
  | alloc heap zero =>
    obtain ⟨q, e⟩ := sel_some e
    cases e
    subst q
    rw [EH.push_list] at k
    simp only [EOp.wp, newVarAt, if_true, EH.length_list]; exact k
  | box heap x =>
    simp only [EOp.evE] at e
    split at e
    · rename_i hc
      obtain ⟨q, e⟩ := sel_some e
      cases e
      subst q
      rw [EH.push_list] at k
      simp only [EOp.wp, hc, newVarAt, if_true, EH.length_list]; exact k
    · cases e
  | store n x v =>
    simp only [EOp.evE] at e
    split at e
    · rename_i hc
      simp only [EOp.wp, hc]
      exact storeE_ok e k
    · cases e
  | call f args => exact callE_ok hgo e k
  | bslice esz xs =>
    obtain ⟨q, e⟩ := sel_some e
    cases e
    exact ⟨q, k⟩
  | append esz bytes str x y =>
    simp only [EOp.evE] at e
    split at e
    · rename_i ys hc
      obtain ⟨q, e⟩ := sel_some e
      refine ⟨by simpa using q, ?_⟩
      rw [srcE_ok, hc]
      exact appE_ok e k
    · cases e
  | appendA esz bytes str x y =>
    simp only [EOp.evE] at e
    split at e
    · rename_i ys hc
      obtain ⟨q, e⟩ := sel_some e
      refine ⟨by simpa using q, ?_⟩
      rw [srcE_ok, hc]
      exact appAE_ok e k
    · cases e
  | clr za x => exact clrE_ok e k
  | copy esz x y =>
    simp only [EOp.evE] at e
    split at e
    · rename_i ys hc
      obtain ⟨q, e⟩ := sel_some e
      refine ⟨by simpa using q, ?_⟩
      rw [srcE_ok, hc]
      exact copyE_ok e k
    · cases e
  | mksl esz bytes zero len cap => exact mkslE_ok e k
  | mkmap =>
    cases e
    rw [EH.push_list] at k
    simp only [EOp.wp, EH.length_list]; exact k
  | mupd sk m key val =>
    obtain ⟨i, hi, q⟩ := mupdE_ok e k
    simp only [EOp.wp, hi]
    exact q
  | range x => exact rangeE_ok e k
  | next x => exact nextE_ok e k
  | s2b arr x =>
    simp only [EOp.evE] at e
    split at e
    · rename_i s hs
      simp only [EOp.wp, hs, s2bAV]
      cases arr with
      | true =>
        cases e
        rw [EH.push_list] at k
        simp only [if_true, EH.length_list]; exact k
      | false =>
        cases e
        exact k
    · cases e
  | no => cases e
theorem AOp.evE_ok (hgo : GoOk P W0 go) {op : AOp} (e : op.evE go st h = some (r, h')) (k : K (st.set d r) h'.list) : op.wp P W0 d K st h.list := by
  cases op with
  | pu x =>
    simp only [AOp.evE] at e
    split at e
    · rename_i hr
      cases e
      simp only [AOp.wp, PExp.evE_ok hr]; exact k
    · cases e
  | px x =>
    simp only [AOp.evE] at e
    split at e
    · rename_i hr
      cases e
      simp only [AOp.wp, XExp.evE_ok, hr]; exact k
    · cases e
  | ef x => exact EOp.evE_ok hgo e k
theorem AOper.evE_ok (hgo : GoOk P W0 go) {o : AOper} (e : o.evE go st h = some (r, h')) (k : K (st.set o.dst r) h'.list) : o.wp P W0 K st h.list := by
  unfold AOper.evE at e
  unfold AOper.wp
  split at e
  · rename_i hg
    simp only [hg]
    exact AOp.evE_ok hgo e k
  · rename_i t want hg
    simp only [hg]
    split at e
    · rename_i b hb
      simp only [hb]
      rw [sel_eq] at e
      split at e
      · rename_i q
        rw [if_pos (by simpa using q)]
        exact AOp.evE_ok hgo e k
      · rename_i q
        rw [if_neg (by simpa using q)]
        cases e
        exact k
    · rename_i hb
      simp only [hb]
      cases e
      exact k
    · cases e
end
end Go.Qa
