/- The abstract machine: maps. -/
import Derived.Test.YtanfmlmcddanjaaGreatDoorRQaEq
import Derived.WideKeyRuns
import Derived.ChangeKeysEq
set_option linter.all false
namespace Go.Qa
open Go Go.RowKit

/-- Kinds of keys: scalars, and arrays or structs of them; pointers, where it is enough to know a key again. -/
inductive KK where
  | sc (k : SK)
  | ag (ks : List SK)
  | pt
  deriving Inhabited
/-- The same pointer. -/
def ptEq : AV → AV → Option Bool
  | .ref b o, .ref c p => if b = c ∧ o = p then some true else none
  | _, _ => none
theorem ptEq_some {x y : AV} {r : Bool} (h : ptEq x y = some r) : r = true ∧ ∃ b o, x = .ref b o ∧ y = .ref b o := by
  unfold ptEq at h
  split at h
  · split at h
    · rename_i q
      cases h
      exact ⟨rfl, _, _, rfl, by rw [q.1, q.2]⟩
    · cases h
  · cases h
def KK.eq : KK → AV → AV → Option Bool
  | .sc k, x, y => scalEq k x y
  | .ag ks, x, y => eqAggs ks x y
  | .pt, x, y => ptEq x y
/-- Where a key stands; outer none: it can't be told. -/
def findAV (k : KK) (key : AV) : List (AV × AV × Nat) → Nat → Option (Option (Nat × AV))
  | [], _ => some none
  | e :: es, i => match k.eq key e.1 with
    | some true => some (some (i, e.2.1))
    | some false => findAV k key es (i + 1)
    | none => none
def lookupAV (k : KK) (zero : AV) (es : List (AV × AV × Nat)) (key : AV) (ok : Bool) : Option AV :=
  match findAV k key es 0 with
  | some (some (_, v)) => some (if ok then .tup [v, .bool true] else v)
  | some none => some (if ok then .tup [zero, .bool false] else zero)
  | none => none
def mapOf (H : AHeap) (x : AV) : Option (List (AV × AV × Nat)) :=
  match x with
  | .pl (.map none) => some []
  | .map m => match H[m]? with
    | some (.map es _) => some es
    | _ => none
  | _ => none
/-- A key by itself. -/
def scOk (k : SK) (key : AV) : Bool := match k, key with
  | .i, .int .. => true
  | .b, .bool _ => true
  | .s, .str _ => true
  | _, _ => false
def scsOk : List SK → List AV → Bool
  | [], [] => true
  | k :: ks, c :: cs => scOk k c && scsOk ks cs
  | _, _ => false
def keyOk (k : KK) (key : AV) : Bool := match k, key with
  | .sc k, x => scOk k x
  | .ag ks, .agg cs => scsOk ks cs
  | .pt, .ref _ _ => true
  | _, _ => false
/-- What keys a type has. -/
def kkOf (P : Program) (t : TypeId) : Option KK :=
  match P.underlying t with
  | some (.array n e) => if (P.info? e).map (·.size) = some 1 then (P.underlying e).bind fun d => (skOf d).map fun k => .ag (List.replicate n k) else none
  | some (.struct fs) => if P.stoodInHeld t then none else (flatFields P 0 fs.toList).map .ag
  | some (.pointer e) => (P.info? e).map fun _ => .pt
  | some d => (skOf d).map .sc
  | none => none
def mupdAV (k : KK) (m : Nat) (key val : AV) (d : Option Nat) (K : AS → AHeap → Prop) (st : AS) (H : AHeap) : Prop :=
  keyOk k key = true ∧ val.glob = true ∧ match H[m]? with
  | some (.map es clock) => match findAV k key es 0 with
    | some (some (i, _)) => K (st.set d (.pl undef)) (H.set m (.map (es.modify i fun e => (key, val, e.2.2)) clock))
    | some none => K (st.set d (.pl undef)) (H.set m (.map (es ++ [(key, val, clock)]) (clock + 1)))
    | none => False
  | _ => False

section
variable {W0 : World} {G0 : Ghost} {w0 : World} {N : Nat} {G G' : Ghost} {L : Nat → Option Nat} {st : AS} {H H' : AHeap} {ca : Act} {w w' : World} {P : Program}

/-- The entries stand for the entries. -/
def ERel (G : Ghost) (es : List (AV × AV × Nat)) (ms : List MapEntry) : Prop :=
  ms.length = es.length ∧ ∀ (j : Nat) (e : AV × AV × Nat) (m : MapEntry), es[j]? = some e → ms[j]? = some m → VRel G e.1 m.key ∧ VRel G e.2.1 m.val ∧ e.2.2 = m.born
theorem ERel.of_obj {i : Nat} {es : List (AV × AV × Nat)} {clock : Nat} (h : ORel G w i (.map es clock)) : ∃ B ms, G.bx i = some B ∧ w.heap[B]? = some (.map ms.toArray clock) ∧ ERel G es ms := by
  obtain ⟨B, ms, h1, h2, h3, h4⟩ := h
  refine ⟨B, ms.toList, h1, by simpa using h2, by simpa using h3, fun j e m he hm => ?_⟩
  have hj : j < es.length := (List.getElem?_eq_some_iff.1 he).1
  obtain ⟨e', m', q1, q2, q3⟩ := h4 j hj
  rw [he] at q1; cases q1
  have : ms[j]? = some m := by simpa using hm
  rw [q2] at this; cases this
  exact q3
theorem ERel.obj {i B : Nat} {es : List (AV × AV × Nat)} {clock : Nat} {ms : List MapEntry} (h1 : G.bx i = some B) (h2 : w.heap[B]? = some (.map ms.toArray clock)) (h : ERel G es ms) : ORel G w i (.map es clock) := by
  refine ⟨B, ms.toArray, h1, h2, by simpa using h.1, fun j hj => ?_⟩
  have hm : j < ms.length := by rw [h.1]; exact hj
  refine ⟨es[j], ms[j], List.getElem?_eq_getElem hj, by simp [hm], h.2 j _ _ (List.getElem?_eq_getElem hj) (List.getElem?_eq_getElem hm)⟩
theorem ERel.nil (G : Ghost) : ERel G [] [] := ⟨rfl, fun j e m h => by simp at h⟩
theorem ERel.cons {e : AV × AV × Nat} {m : MapEntry} {es : List (AV × AV × Nat)} {ms : List MapEntry} (h : ERel G (e :: es) (m :: ms)) : (VRel G e.1 m.key ∧ VRel G e.2.1 m.val ∧ e.2.2 = m.born) ∧ ERel G es ms :=
  ⟨h.2 0 e m rfl rfl, by simpa using h.1, fun j a b ha hb => h.2 (j + 1) a b (by simpa using ha) (by simpa using hb)⟩

theorem scal_now {de : TypeDesc} {k : SK} (hk : skOf de = some k) {x y : AV} {u v : Value} (hx : VRel G x u) (hy : VRel G y v) {b : Bool} (h : scalEq k x y = some b) : Instr.sameNow de u v = some b := by
  cases de <;> simp [skOf] at hk <;> subst hk <;> cases hx <;> cases hy <;> simp [scalEq] at h
  · subst h; rfl
  · obtain ⟨rfl, rfl⟩ := h; simp [Instr.sameNow]
  · subst h
    rename_i s _ s' _
    have := beq_toListBytes (bs s) (bs s')
    rw [bs_toList, bs_toList] at this
    simp only [Instr.sameNow]
    exact congrArg some this
/-- What was found stands for what was found. -/
def FRel (G : Ghost) (n i : Nat) (r : Option (Nat × AV)) (r' : Option (Nat × Value)) : Prop :=
  match r, r' with
  | none, none => True
  | some (j, v), some (j', v') => j = j' ∧ VRel G v v' ∧ i ≤ j ∧ j < i + n
  | _, _ => False
theorem find_now {de : TypeDesc} {k : SK} (hk : skOf de = some k) {key : AV} {kv : Value} (hkey : VRel G key kv) : ∀ {es : List (AV × AV × Nat)} {ms : List MapEntry} (i : Nat) {r : Option (Nat × AV)}, ERel G es ms → findAV (.sc k) key es i = some r →
    ∃ r', Instr.findNow de kv ms i = some r' ∧ FRel G ms.length i r r'
  | [], [], i, r, he, h => by
    simp [findAV] at h; subst h
    exact ⟨none, rfl, trivial⟩
  | [], m :: ms, i, r, he, h => by simp [ERel] at he
  | e :: es, [], i, r, he, h => by simp [ERel] at he
  | e :: es, m :: ms, i, r, he, h => by
    obtain ⟨⟨h1, h2, h3⟩, h4⟩ := he.cons
    simp only [findAV, KK.eq] at h
    split at h
    · rename_i hs
      cases h
      refine ⟨some (i, m.val), by simp [Instr.findNow, scal_now hk hkey h1 hs], rfl, h2, Nat.le_refl _, by simp⟩
    · rename_i hs
      obtain ⟨r', q1, q2⟩ := find_now hk hkey (i + 1) h4 h
      refine ⟨r', by simp [Instr.findNow, scal_now hk hkey h1 hs, q1], ?_⟩
      cases r with
      | none => cases r' <;> simp_all [FRel]
      | some p =>
        obtain ⟨j, v⟩ := p
        cases r' with
        | none => exact q2.elim
        | some p' =>
          obtain ⟨j', v'⟩ := p'
          obtain ⟨a, b, c, d⟩ := q2
          exact ⟨a, b, by omega, by simp; omega⟩
    · cases h

theorem run_checkKey {t : TypeId} {de : TypeDesc} {k : SK} (ht : P.underlying t = some de) (hk : skOf de = some k) (b : Bool) (n : Nat) (v : Value) (w : World) : (Instr.checkKey b (n + 1) t v).run P w = .ok () w := by
  unfold Instr.checkKey
  rw [Sem.run_bind, run_underlying ht]
  cases de <;> simp [skOf] at hk <;> rfl
theorem run_findKey {t : TypeId} {de : TypeDesc} (ht : P.underlying t = some de) {kv : Value} {ms : List MapEntry} {r : Option (Nat × Value)} (h : Instr.findNow de kv ms 0 = some r) (w : World) : (Instr.findKey t kv ms).run P w = .ok r w := by
  simp only [Instr.findKey, Sem.run_bind, run_underlying ht, Result.andThen_ok, h]
  rfl
theorem sameBits_scal {k : SK} {x y : AV} {u v : Value} (hx : VRel G x u) (hy : VRel G y v) (h : scalEq k x y = some true) (n : Nat) : Instr.sameBits n v u = true := by
  have key : ∃ s, (x = s ∧ y = s) ∧ ((∃ k n, s = .int k n) ∨ (∃ b, s = .bool b) ∨ (∃ b, s = .str b)) := by
    unfold scalEq at h
    split at h
    · split at h
      · rename_i e
        subst e
        simp at h
        subst h
        exact ⟨_, ⟨rfl, rfl⟩, .inl ⟨_, _, rfl⟩⟩
      · cases h
    · simp at h; subst h; exact ⟨_, ⟨rfl, rfl⟩, .inr (.inl ⟨_, rfl⟩)⟩
    · simp at h; subst h; exact ⟨_, ⟨rfl, rfl⟩, .inr (.inr ⟨_, rfl⟩)⟩
    · cases h
  obtain ⟨s, ⟨rfl, rfl⟩, ⟨k, n, rfl⟩ | ⟨b, rfl⟩ | ⟨b, rfl⟩⟩ := key
  · cases hx; cases hy; unfold Instr.sameBits; simp
  · cases hx; cases hy; unfold Instr.sameBits; simp
  · cases hx; cases hy; unfold Instr.sameBits; rw [beq_toListBytes]; simp

/-- What is known of a type of keys. -/
structure KLaw (P : Program) (t : TypeId) (k : KK) : Prop where
  chk : ∀ {G : Ghost} {key : AV} {kv : Value} (em : Bool) (w : World), keyOk k key = true → VRel G key kv → (Instr.checkKey em 10000 t kv).run P w = .ok () w
  find : ∀ {G : Ghost} {key : AV} {kv : Value} {es : List (AV × AV × Nat)} {ms : List MapEntry} {r : Option (Nat × AV)} (w : World), VRel G key kv → ERel G es ms → findAV k key es 0 = some r →
    ∃ r', (Instr.findKey t kv ms).run P w = .ok r' w ∧ FRel G ms.length 0 r r'
  same : ∀ {G : Ghost} {x y : AV} {u v : Value}, VRel G x u → VRel G y v → k.eq x y = some true → Instr.sameBits 10000 v u = true
theorem scsOk_get : ∀ {ks : List SK} {cs : List AV}, scsOk ks cs = true → cs.length = ks.length ∧ ∀ j, j < cs.length → scOk (ks.getD j .i) (cs.getD j .any) = true
  | [], [], _ => ⟨rfl, fun j h => by simp at h⟩
  | [], _ :: _, h => by cases h
  | _ :: _, [], h => by cases h
  | k :: ks, c :: cs, h => by
    simp only [scsOk, Bool.and_eq_true] at h
    obtain ⟨h1, h2⟩ := scsOk_get h.2
    refine ⟨by simp [h1], fun j hj => ?_⟩
    cases j with
    | zero => simpa using h.1
    | succ j => simpa using h2 j (by simpa using hj)
theorem klaw_sc {t : TypeId} {de : TypeDesc} {k : SK} (ht : P.underlying t = some de) (hk : skOf de = some k) : KLaw P t (.sc k) := {
  chk em w _ _ := run_checkKey ht hk em 9999 _ w
  find w hkey he hf := by
    obtain ⟨r', q1, q2⟩ := find_now hk hkey 0 he hf
    exact ⟨r', run_findKey ht q1 w, q2⟩
  same hx hy h := sameBits_scal hx hy h 10000 }
theorem eqAggs_some {ks : List SK} {x y : AV} {b : Bool} (h : eqAggs ks x y = some b) : ∃ cs ds, x = .agg cs ∧ y = .agg ds ∧ cs.length = ks.length ∧ ds.length = ks.length ∧ eqCells ks cs ds = some b := by
  unfold eqAggs at h
  split at h
  · split at h
    · rename_i cs ds hl
      exact ⟨cs, ds, rfl, rfl, hl.1, hl.2, h⟩
    · cases h
  · cases h
/-- Keys that are wide: by what == comes to. -/
theorem klaw_ag {t : TypeId} {ks : List SK} (hwide : (match P.underlying t with | some (.array _ _) | some (.struct _) => true | _ => false) = true)
    (hchk : ∀ (vs : List Value) (em : Bool) (w : World), vs.length = ks.length → (Instr.checkKey em 10000 t (.agg vs.toArray)).run P w = .ok () w)
    (heq : ∀ {G : Ghost} {cs ds : List AV} {us vs : List Value} {b : Bool} (w : World), VRels G cs us → VRels G ds vs → cs.length = ks.length → ds.length = ks.length → eqCells ks cs ds = some b → (Op.equal t (.agg us.toArray) (.agg vs.toArray)).run P w = .ok b w) : KLaw P t (.ag ks) := {
  chk := by
    intro G key kv em w hk hv
    cases key <;> simp only [keyOk] at hk <;> try (cases hk; done)
    cases hv with
    | agg cs vs hl h => exact hchk vs em w (by rw [hl]; exact (scsOk_get hk).1)
  find := by
    intro G key kv es ms r w hkey he hf
    rw [run_findKey_eq w hwide]
    have key : ∀ (es : List (AV × AV × Nat)) (ms : List MapEntry) (i : Nat) (r : Option (Nat × AV)), ERel G es ms → findAV (.ag ks) key es i = some r → ∃ r', (Instr.findAsking t kv ms i).run P w = .ok r' w ∧ FRel G ms.length i r r' := by
      intro es
      induction es with
      | nil =>
        intro ms i r he hf
        cases ms with
        | nil => simp [findAV] at hf; subst hf; exact ⟨none, rfl, trivial⟩
        | cons m ms => simp [ERel] at he
      | cons e es ih =>
        intro ms i r he hf
        cases ms with
        | nil => simp [ERel] at he
        | cons m ms =>
          obtain ⟨⟨h1, h2, h3⟩, h4⟩ := he.cons
          simp only [findAV] at hf
          have run : ∀ b, KK.eq (.ag ks) key e.1 = some b → (Op.equal t kv m.key).run P w = .ok b w := by
            intro b hb
            simp only [KK.eq] at hb
            obtain ⟨cs, ds, e1, e2, l3, l4, hb⟩ := eqAggs_some hb
            have hkey2 := hkey
            rw [e1] at hkey2
            rw [e2] at h1
            generalize m.key = mk at h1
            clear hf ih
            cases hkey2 with
            | agg _ us l1 g1 =>
              cases h1 with
              | agg _ vs l2 g2 => exact heq w ⟨l1, g1⟩ ⟨l2, g2⟩ l3 l4 hb
          split at hf
          · rename_i hs
            cases hf
            refine ⟨some (i, m.val), ?_, rfl, h2, Nat.le_refl _, by simp⟩
            simp [Instr.findAsking, run _ hs]
          · rename_i hs
            obtain ⟨r', q1, q2⟩ := ih ms (i + 1) r h4 hf
            refine ⟨r', by simp [Instr.findAsking, run _ hs, q1], ?_⟩
            cases r with
            | none => cases r' <;> simp_all [FRel]
            | some p =>
              obtain ⟨j, v⟩ := p
              cases r' with
              | none => exact q2.elim
              | some p' =>
                obtain ⟨j', v'⟩ := p'
                obtain ⟨a, b, c, d⟩ := q2
                exact ⟨a, b, by omega, by simp; omega⟩
          · cases hf
    exact key es ms 0 r he hf
  same := by
    intro G x y u v hx hy h
    simp only [KK.eq] at h
    obtain ⟨cs, ds, rfl, rfl, l3, l4, h⟩ := eqAggs_some h
    · · cases hx with
        | agg _ us l1 g1 =>
          cases hy with
          | agg _ vs l2 g2 =>
            have all : ∀ (ks : List SK) (cs ds : List AV) (us vs : List Value), VRels G cs us → VRels G ds vs → eqCells ks cs ds = some true → ∀ p ∈ vs.zip us, Instr.sameBits 9999 p.1 p.2 = true := by
              intro ks
              induction ks with
              | nil =>
                intro cs ds us vs h1 h2 h p hp
                cases cs <;> cases ds <;> simp [eqCells] at h
                rw [h1.eq_nil] at hp
                simp at hp
              | cons k ks ih =>
                intro cs ds us vs h1 h2 h p hp
                cases cs with
                | nil => simp [eqCells] at h
                | cons c cs =>
                  cases ds with
                  | nil => simp [eqCells] at h
                  | cons d ds =>
                    obtain ⟨u, us', rfl, r1, r2⟩ := h1.head
                    obtain ⟨v, vs', rfl, r3, r4⟩ := h2.head
                    simp only [eqCells] at h
                    split at h
                    · rename_i hs
                      rw [List.zip_cons_cons, List.mem_cons] at hp
                      rcases hp with rfl | hp
                      · exact sameBits_scal r1 r3 hs 9999
                      · exact ih cs ds us' vs' r2 r4 h p hp
                    · cases h
                    · cases h
            show (vs.toArray.size == us.toArray.size && (vs.toArray.toList.zip us.toArray.toList).all fun (x, y) => Instr.sameBits 9999 x y) = true
            simp only [Bool.and_eq_true, List.all_eq_true]
            refine ⟨by simp; omega, fun p hp => ?_⟩
            exact all ks cs ds us vs ⟨l1, g1⟩ ⟨l2, g2⟩ h p (by simpa using hp) }
theorem run_part_any {t : TypeId} {de : TypeDesc} {k : SK} (ht : P.underlying t = some de) (hk : skOf de = some k) (vs : List Value) (o : Nat) (h : o < vs.length) (w : World) : (part t vs.toArray o).run P w = .ok (vs.getD o undef) w := cell_part ht hk vs o h
theorem klaw_pt {t e : TypeId} {i : TypeInfo} (ht : P.underlying t = some (.pointer e)) (hi : P.info? e = some i) : KLaw P t .pt := {
  chk := by
    intro G key kv em w hk hv
    rw [show (10000 : Nat) = 9999 + 1 from rfl, Instr.checkKey]
    rw [Sem.run_bind, run_underlying ht]
    rfl
  find := by
    intro G key kv es ms r w hkey he hf
    cases es with
    | nil =>
      cases ms with
      | nil =>
        simp [findAV] at hf
        subst hf
        refine ⟨none, ?_, trivial⟩
        simp only [Instr.findKey, Sem.run_bind, run_underlying ht, Result.andThen_ok, Instr.findNow]
        rfl
      | cons m ms => simp [ERel] at he
    | cons e0 es =>
      cases ms with
      | nil => simp [ERel] at he
      | cons m ms =>
        obtain ⟨⟨h1, h2, h3⟩, h4⟩ := he.cons
        simp only [findAV, KK.eq] at hf
        split at hf
        · rename_i hs
          cases hf
          obtain ⟨_, b, o, e1, e2⟩ := ptEq_some hs
          rw [e1] at hkey
          rw [e2] at h1
          generalize hmk : m.key = mk at h1
          cases hkey with
          | ref _ _ B hB =>
            cases h1 with
            | ref _ _ C hC =>
              rw [hB] at hC
              cases hC
              refine ⟨some (0, m.val), ?_, rfl, h2, Nat.le_refl _, by simp⟩
              have hn : Instr.findNow (.pointer e) (.pointer (some ⟨B, o, none⟩)) (m :: ms) 0 = none := by
                simp only [Instr.findNow, Instr.sameNow]
              have heq : (Op.equal t (.pointer (some ⟨B, o, none⟩)) (.pointer (some ⟨B, o, none⟩))).run P w = .ok true w := by
                rw [run_equal]
                unfold Op.equalIn
                rw [Sem.run_bind, run_underlying ht]
                simp [sizeOf, typeInfo, hi, sameAddr]
              simp only [Instr.findKey, Sem.run_bind, run_underlying ht, Result.andThen_ok, hn]
              unfold Instr.findAsking
              rw [hmk, Sem.run_bind, heq]
              rfl
        · rename_i hs
          cases (ptEq_some hs).1
        · cases hf
  same := by
    intro G x y u v hx hy h
    obtain ⟨_, b, o, e1, e2⟩ := ptEq_some h
    rw [e1] at hx
    rw [e2] at hy
    cases hx with
    | ref _ _ B hB =>
      cases hy with
      | ref _ _ C hC =>
        rw [hB] at hC
        cases hC
        unfold Instr.sameBits
        simp }
theorem klaw_of {t : TypeId} {k : KK} (h : kkOf P t = some k) : KLaw P t k := by
  unfold kkOf at h
  split at h
  · rename_i n e ht
    split at h
    · rename_i hsz
      simp only [Option.bind_eq_some_iff, Option.map_eq_some_iff] at h
      obtain ⟨d, hd, k, hk, rfl⟩ := h
      obtain ⟨i, hi, his⟩ := Option.map_eq_some_iff.1 hsz
      have hce : P.cellsOf e = 1 := by simp [Program.cellsOf, hi, his]
      refine klaw_ag (by rw [ht]) (fun vs em w hl => ?_) (fun {G cs ds us vs b} w h1 h2 l1 l2 hb => ?_)
      · rw [List.length_replicate] at hl
        rw [show (10000 : Nat) = 9999 + 1 from rfl, Instr.checkKey]
        simp only [Sem.run_bind, run_underlying ht, Result.andThen_ok]
        simp only [Std.Legacy.Range.forIn_eq_forIn_range', Std.Legacy.Range.size, Nat.sub_zero, Nat.add_one_sub_one, Nat.div_one]
        have all : ∀ is : List Nat, (∀ i ∈ is, i < n) → (forIn is PUnit.unit fun i r => (do
            Instr.checkKey em 9999 e (← part e vs.toArray (i * (← sizeOf e)))
            pure (ForInStep.yield PUnit.unit) : Sem (ForInStep PUnit))).run P w = .ok PUnit.unit w := by
          intro is
          induction is with
          | nil => intro _; simp
          | cons j is ih =>
            intro hj
            have hjl : j < vs.length := by rw [hl]; exact hj j (by simp)
            simp only [List.forIn_cons, Sem.run_bind, run_sizeOf w hi, hce, Nat.mul_one, Result.andThen_ok, run_part_any hd hk vs j hjl w, run_checkKey hd hk em 9998, Sem.run_pure]
            exact ih fun i hi => hj i (by simp [hi])
        have := all (List.range' 0 n) (fun i hi => by simpa using hi)
        simp at this ⊢
        rw [this]
        rfl
      · rw [List.length_replicate] at l1 l2
        show (Op.equalIn (9999 + 1) t (.agg us.toArray) (.agg vs.toArray)).run P w = _
        rw [run_equalIn_array w 9999 us.toArray vs.toArray ht hi, hce]
        have all : ∀ (m o : Nat) (cs ds : List AV), o + m = n → (∀ j, j < cs.length → VRel G (cs.getD j .any) (us.getD (o + j) undef)) → (∀ j, j < ds.length → VRel G (ds.getD j .any) (vs.getD (o + j) undef)) → eqCells (List.replicate m k) cs ds = some b →
            (Op.eqItems 9999 e 1 us.toArray vs.toArray (List.range' o m)).run P w = .ok b w := by
          intro m
          induction m with
          | zero =>
            intro o cs ds ho g1 g2 hb
            cases cs <;> cases ds <;> simp [eqCells] at hb
            subst hb
            rfl
          | succ m ih =>
            intro o cs ds ho g1 g2 hb
            rw [List.replicate_succ] at hb
            rcases cs with _ | ⟨c, cs⟩
            · simp [eqCells] at hb
            rcases ds with _ | ⟨e2, ds⟩
            · simp [eqCells] at hb
            simp only [eqCells] at hb
            have hc : VRel G c (us.getD o undef) := by simpa using g1 0 (by simp)
            have he : VRel G e2 (vs.getD o undef) := by simpa using g2 0 (by simp)
            have q1 := h1.1
            have q2 := h2.1
            simp only [List.range'_succ, Op.eqItems, Nat.mul_one, Sem.run_bind, run_part_any hd hk us o (by omega), run_part_any hd hk vs o (by omega), Result.andThen_ok]
            split at hb
            · rename_i hs
              rw [scal_run hd hk hc he hs]
              simp only [Result.andThen_ok, Bool.not_true, Bool.false_eq_true, if_false]
              refine ih (o + 1) cs ds (by omega) (fun j hj => ?_) (fun j hj => ?_) hb
              · have := g1 (j + 1) (by simpa using hj)
                simpa [Nat.add_assoc, Nat.add_comm 1 j] using this
              · have := g2 (j + 1) (by simpa using hj)
                simpa [Nat.add_assoc, Nat.add_comm 1 j] using this
            · rename_i hs
              cases hb
              rw [scal_run hd hk hc he hs]
              rfl
            · cases hb
        rw [List.range_eq_range']
        exact all n 0 cs ds (by omega) (by simpa using h1.2) (by simpa using h2.2) hb
    · cases h
  · rename_i fs ht
    split at h
    · cases h
    · rename_i hst
      simp only [Bool.not_eq_true] at hst
      simp only [Option.map_eq_some_iff] at h
      obtain ⟨ks, hks, rfl⟩ := h
      have hlen : ∀ (fs : List Field) (o : Nat) (ks : List SK), flatFields P o fs = some ks → ks.length = fs.length := by
        intro fs
        induction fs with
        | nil => intro o ks h; simp [flatFields] at h; subst h; rfl
        | cons f fs ih =>
          intro o ks h
          simp only [flatFields] at h
          split at h
          · cases h
          · simp only [Option.bind_eq_some_iff, Option.map_eq_some_iff] at h
            obtain ⟨_, _, _, _, ks', h, rfl⟩ := h
            simp [ih _ _ h]
      have hfl := hlen _ _ _ hks
      refine klaw_ag (by rw [ht]) (fun vs em w hl => ?_) (fun {G cs ds us vs b} w h1 h2 l1 l2 hb => ?_)
      · rw [show (10000 : Nat) = 9999 + 1 from rfl, Instr.checkKey]
        simp only [Sem.run_bind, run_underlying ht, Result.andThen_ok]
        rw [← Array.forIn_toList]
        have all : ∀ (fs : List Field) (o : Nat) (ks : List SK), flatFields P o fs = some ks → o + fs.length = vs.length → (forIn fs PUnit.unit fun f r => (if f.name ≠ "_" then (do
            Instr.checkKey em 9999 f.type (← part f.type vs.toArray f.offset)
            pure (ForInStep.yield PUnit.unit)) else (pure (ForInStep.yield PUnit.unit)) : Sem (ForInStep PUnit))).run P w = .ok PUnit.unit w := by
          intro fs
          induction fs with
          | nil => intro o ks _ _; simp
          | cons f fs ih =>
            intro o ks h ho
            simp only [flatFields] at h
            split at h
            · cases h
            · rename_i hn
              simp only [Option.bind_eq_some_iff, Option.map_eq_some_iff] at h
              obtain ⟨de, hde, k, hk, ks', hks', rfl⟩ := h
              have hname : f.name ≠ "_" := fun q => hn (.inl q)
              have hoff : f.offset = o := Classical.byContradiction fun q => hn (.inr q)
              simp only [List.length_cons] at ho
              simp only [List.forIn_cons, Sem.run_bind]
              rw [if_pos hname]
              simp only [Sem.run_bind, hoff, run_part_any hde hk vs o (by omega) w, Result.andThen_ok, run_checkKey hde hk em 9998, Sem.run_pure]
              exact ih (o + 1) ks' hks' (by omega)
        have := all fs.toList 0 ks hks (by omega)
        simp at this ⊢
        rw [this]
        rfl
      · show (Op.equalIn (9998 + 2) t (.agg us.toArray) (.agg vs.toArray)).run P w = _
        have hff : P.fieldsOf t = fs := by simp [Program.fieldsOf, ht]
        have q1 := h1.1
        have q2 := h2.1
        rw [run_equalIn_struct w (9998 + 1) t us.toArray vs.toArray (by rw [hff]; exact ht) hst, hff]
        exact fields_run 9998 us vs fs.toList 0 ks hks (by omega) (by omega) (by simpa using h1.2) (by simpa using h2.2) hb
  · rename_i e ht
    simp only [Option.map_eq_some_iff] at h
    obtain ⟨i, hi, rfl⟩ := h
    exact klaw_pt ht hi
  · rename_i d _ _ _ hd
    simp only [Option.map_eq_some_iff] at h
    obtain ⟨k, hk, rfl⟩ := h
    exact klaw_sc hd hk
  · cases h

theorem lookup_sound (h : Rel W0 G0 w0 N G L st H ca w) {t kt et : TypeId} {k : KK} {i : TypeInfo} {z : Value} {za : AV} (ht : P.underlying t = some (.map kt et)) (hk : KLaw P kt k) (hi : P.info? et = some i) (hz : i.zero = some z) (hza : AV.ofConst z = some za)
    {x y : Operand} {x' y' : Opd} (hx : cOpd N x = some x') (hy : cOpd N y = some y') {ok : Bool} {es : List (AV × AV × Nat)} (hes : mapOf H (st.ev x') = some es) (hkey : keyOk k (st.ev y') = true) {r : AV} (hr : lookupAV k za es (st.ev y') ok = some r) :
    Gives P G L st w (Instr.lookup t (ca.eval x) (ca.eval y) ok) r := by
  have h1 := h.opd hx
  have h2 := (h.opd hy).rel (fun t off e => by rw [e] at hkey; rcases k with k | k | _ <;> first | (cases hkey; done) | (cases k <;> cases hkey))
  have hzr := AV.ofConst_rel (G := G) hza
  obtain ⟨ms, hm, her⟩ : ∃ ms : List MapEntry, ERel G es ms ∧ ((ca.eval x = .map none ∧ ms = []) ∨ ∃ B clock, ca.eval x = .map (some B) ∧ w.heap[B]? = some (.map ms.toArray clock)) := by
    generalize ca.eval x = vx at *
    generalize st.ev x' = a at *
    cases a <;> simp only [mapOf] at hes <;> try (cases hes; done)
    · split at hes
      · rename_i e0; cases e0; cases hes
        exact ⟨[], .nil G, .inl ⟨h1.pl, rfl⟩⟩
      · rename_i e0; cases e0
      · cases hes
    · rename_i m
      split at hes
      · rename_i l c hm
        cases hes
        have h3 := h1.rel (by simp)
        cases h3 with
        | map _ B hB =>
          obtain ⟨B', ms, hB', hh, her⟩ := ERel.of_obj (h.inv.obj m _ hm)
          rw [hB] at hB'; cases hB'
          exact ⟨ms, her, .inr ⟨B, _, rfl, hh⟩⟩
      · cases hes
  simp only [lookupAV] at hr
  have hzero : (zeroValue et).run P w = .ok z w := by simp [zeroValue, typeInfo, hi, hz]
  have hrun : ∀ (q : Option (Nat × Value)), (Instr.findKey kt (ca.eval y) ms).run P w = .ok q w → (Instr.lookup t (ca.eval x) (ca.eval y) ok).run P w =
      .ok (if ok then .tuple #[((q.map Prod.snd).getD z), .bool q.isSome] else ((q.map Prod.snd).getD z)) w := by
    intro q hq
    have fin : (do
        Instr.checkKey ms.toArray.isEmpty 10000 kt (ca.eval y)
        match ← Instr.findKey kt (ca.eval y) ms with
          | some (_, v) => do
            let p ← (pure (v, true) : Sem (Value × Bool))
            pure (if ok = true then Value.tuple #[p.1, Value.bool p.2] else p.1)
          | none => do
            let l ← zeroValue et
            let p ← (pure (l, false) : Sem (Value × Bool))
            pure (if ok = true then Value.tuple #[p.1, Value.bool p.2] else p.1) : Sem Value).run P w =
        .ok (if ok then .tuple #[((q.map Prod.snd).getD z), .bool q.isSome] else ((q.map Prod.snd).getD z)) w := by
      rw [Sem.run_bind, hk.chk _ w hkey h2, Result.andThen_ok, Sem.run_bind, hq, Result.andThen_ok]
      cases q <;> simp [hzero]
    rcases her with ⟨e, rfl⟩ | ⟨B, clock, e, hh⟩
    · simp only [Instr.lookup, Sem.run_bind (x := underlying t), run_underlying ht, Result.andThen_ok, e]
      exact fin
    · have hg : (getObj B).run P w = .ok (.map ms.toArray clock) w := by simp [getObj, Sem.run, hh]
      simp only [Instr.lookup, Sem.run_bind (x := underlying t), run_underlying ht, Result.andThen_ok, e, Sem.run_bind (x := getObj B), hg]
      exact fin
  split at hr
  · rename_i j v hf
    cases hr
    obtain ⟨r', q1, q2⟩ := hk.find w h2 hm hf
    cases r' with
    | none => exact q2.elim
    | some p =>
      obtain ⟨j', v'⟩ := p
      obtain ⟨_, hv, _⟩ := q2
      refine .rel (hrun _ q1) ?_
      cases ok
      · exact hv
      · exact .tup [v, .bool true] [v', .bool true] rfl (VRels.cons hv (.cons (.bool _) (.nil G))).2
  · rename_i hf
    cases hr
    obtain ⟨r', q1, q2⟩ := hk.find w h2 hm hf
    cases r' with
    | some p => exact q2.elim
    | none =>
      refine .rel (hrun _ q1) ?_
      cases ok
      · exact hzr
      · exact .tup [za, .bool false] [z, .bool false] rfl (VRels.cons hzr (.cons (.bool _) (.nil G))).2
  · cases hr

/-- An object that is no row is turned. -/
theorem HInv.setObj (h : HInv W0 H G w) (m B : Nat) (o o' : AObj) (ob : Obj) (hm : H[m]? = some o) (hB : G.bx m = some B) (hlive : o ≠ AObj.dead) (hrow : ∀ k, o' ≠ .row k) (hnc : ∀ c t f, w.heap[B]? ≠ some (.cells c t f)) (ho : ∀ w', w'.heap[B]? = some ob → ORel G w' m o') :
    HInv W0 (H.set m o') G { w with heap := w.heap.setIfInBounds B ob } ∧ Next G w G { w with heap := w.heap.setIfInBounds B ob } := by
  obtain ⟨n, hn⟩ := Option.ne_none_iff_exists'.1 (h.bxs m B hB).2.1
  have hlt := h.lt B n hn
  have hne : ∀ C, C ≠ B → (w.heap.setIfInBounds B ob)[C]? = w.heap[C]? := fun C q => Array.getElem?_setIfInBounds_ne (Ne.symm q)
  have hself : (w.heap.setIfInBounds B ob)[B]? = some ob := by rw [Array.getElem?_setIfInBounds_self, if_pos hlt.2]
  have hml : m < H.length := (List.getElem?_eq_some_iff.1 hm).1
  refine ⟨?_, ⟨.refl G, by simp, fun C _ q => hne C (fun e => by rw [e, hn] at q; cases q), fun _ _ q => .inl q⟩⟩
  have hlb : H[m]? ≠ some AObj.dead := by rw [hm]; simpa using hlive
  have hlv : ∀ i, (H.set m o')[i]? ≠ some AObj.dead → H[i]? ≠ some AObj.dead := fun i => live_set hm hlive
  refine { base := ?_, lt := fun C k e => by simp; exact h.lt C k e, imm := fun C p v e => ?_, bxs := fun i C e => ?_, inj := fun i j C hi hj li lj => h.inj i j C hi hj (hlv i li) (hlv j lj), ats := fun t k C E e => ?_, obj := fun i x e => ?_, cur := ?_ }
  · refine h.base.trans ⟨rfl, rfl, rfl, by simp, fun k hk => hne k (by omega)⟩
  · obtain ⟨q, r⟩ := h.imm C p v e
    refine ⟨q, ?_⟩
    have : C ≠ B := by rintro rfl; rw [(h.bxs m _ hB).2.2 hlb p] at e; cases e
    exact (cell_of_heap (w' := { w with heap := w.heap.setIfInBounds B ob }) (hne C this) p).trans r
  · obtain ⟨q1, q2, q3⟩ := h.bxs i C e
    rw [List.length_set]; exact ⟨q1, q2, fun z => q3 (hlv i z)⟩
  · obtain ⟨q1, q2, q3⟩ := h.ats t k C E e
    rw [List.length_set]; exact ⟨q1, q2, fun i z => dead_set hm hlive (q3 i z)⟩
  · by_cases q : m = i
    · subst q
      rw [List.getElem?_set_self hml] at e
      cases e
      exact ho _ hself
    · rw [List.getElem?_set_ne q] at e
      have hx := h.obj i x e
      have hb : x ≠ AObj.dead → ∀ C, G.bx i = some C → C ≠ B := fun hd C hC z => q (h.inj m i B hB (z ▸ hC) hlb (by rw [e]; simpa using hd))
      cases x with
      | cells cs =>
        obtain ⟨C, vs, ty, fz, p1, p2, p3⟩ := hx
        exact ⟨C, vs, ty, fz, p1, (hne C (hb (by simp) C p1)).trans p2, p3⟩
      | row k =>
        obtain ⟨C, E, vs, ty, fz, p1, p2, p3⟩ := hx
        exact ⟨C, E, vs, ty, fz, p1, (hne C (fun z => hlb ((h.ats i k C E p1).2.2 m (z ▸ hB)))).trans p2, p3⟩
      | map es clock =>
        obtain ⟨C, ms, p1, p2, p3⟩ := hx
        exact ⟨C, ms, p1, (hne C (hb (by simp) C p1)).trans p2, p3⟩
      | iter a b c d =>
        obtain ⟨C, p1, mB, p2, p3⟩ := hx
        exact ⟨C, p1, mB, (hne C (hb (by simp) C p1)).trans p2, p3⟩
      | siter s pos =>
        obtain ⟨C, p1, p2⟩ := hx
        exact ⟨C, p1, (hne C (hb (by simp) C p1)).trans p2⟩
      | loop busy ss ps asg body pend =>
        obtain ⟨C, r, p1, p2, p3⟩ := hx
        exact ⟨C, r, p1, (hne C (hb (by simp) C p1)).trans p2, p3⟩
      | dead => exact trivial
  · have key : ∀ (t k : Nat), (H.set m o')[t]? = some (AObj.row k) → H[t]? = some (AObj.row k) := by
      intro t k e
      by_cases q : m = t
      · subst q; rw [List.getElem?_set_self hml] at e; exact absurd (Option.some.inj e) (hrow k)
      · rwa [List.getElem?_set_ne q] at e
    intro t t' k k' C E E' e e' a a'
    exact h.cur t t' k k' C E E' (key t k e) (key t' k' e') a a'

theorem run_setObj {B : Nat} {ob ob' : Obj} (h : w.heap[B]? = some ob) (hc : ∀ c t f, ob ≠ .cells c t f) : (setObj B ob').run P w = .ok () { w with heap := w.heap.setIfInBounds B ob' } := by
  cases ob <;> simp_all [setObj, Sem.run]

theorem find_scal {k : KK} {key : AV} : ∀ {es : List (AV × AV × Nat)} (i : Nat) {j : Nat} {v : AV}, findAV k key es i = some (some (j, v)) → ∃ e, es[j - i]? = some e ∧ k.eq key e.1 = some true ∧ i ≤ j
  | [], i, j, v, h => by simp [findAV] at h
  | e :: es, i, j, v, h => by
    simp only [findAV] at h
    split at h
    · rename_i hs
      cases h
      exact ⟨e, by simp, hs, Nat.le_refl _⟩
    · obtain ⟨e', h1, h2, h3⟩ := find_scal (i + 1) h
      refine ⟨e', ?_, h2, by omega⟩
      rw [show j - i = (j - (i + 1)) + 1 by omega, List.getElem?_cons_succ]
      exact h1
    · cases h

variable {o : Oper} {K : AS → AHeap → Prop} {Q : Exit → Act → World → Prop}
theorem ERel.set {es : List (AV × AV × Nat)} {ms : List MapEntry} (h : ERel G es ms) {key val : AV} {kv vv : Value} (hk : VRel G key kv) (hv : VRel G val vv) (i : Nat) :
    ERel G (es.modify i fun e => (key, val, e.2.2)) (ms.modify i fun e => { e with key := kv, val := vv }) := by
  refine ⟨by simp [h.1], fun j e m he hm => ?_⟩
  rw [List.getElem?_modify] at he hm
  obtain ⟨e0, h1, rfl⟩ := Option.map_eq_some_iff.1 he
  obtain ⟨m0, h2, rfl⟩ := Option.map_eq_some_iff.1 hm
  obtain ⟨a, b, c⟩ := h.2 j e0 m0 h1 h2
  split
  · exact ⟨hk, hv, c⟩
  · exact ⟨a, b, c⟩
theorem ERel.push {es : List (AV × AV × Nat)} {ms : List MapEntry} (h : ERel G es ms) {key val : AV} {kv vv : Value} (hk : VRel G key kv) (hv : VRel G val vv) (c : Nat) :
    ERel G (es ++ [(key, val, c)]) (ms ++ [{ key := kv, val := vv, born := c }]) := by
  refine ⟨by simp [h.1], fun j e m he hm => ?_⟩
  rcases Nat.lt_or_ge j es.length with q | q
  · rw [List.getElem?_append_left q] at he
    rw [List.getElem?_append_left (by rw [h.1]; exact q)] at hm
    exact h.2 j e m he hm
  · rw [List.getElem?_append_right q] at he
    rw [List.getElem?_append_right (by rw [h.1]; exact q), h.1] at hm
    have hj : j - es.length = 0 := by
      have := (List.getElem?_eq_some_iff.1 he).1
      simp at this; omega
    simp [hj] at he hm
    subst he hm
    exact ⟨hk, hv, rfl⟩

theorem mupd_sound (h : Rel W0 G0 w0 N G L st H ca w) {t kt et : TypeId} {k : KK} (ht : P.underlying t = some (.map kt et)) (hk : KLaw P kt k)
    {x y v : Operand} {x' y' v' : Opd} (hx : cOpd N x = some x') (hy : cOpd N y = some y') (hv : cOpd N v = some v') {m : Nat} (hm : st.ev x' = .map m) (hop : execOp ca.eval o = (do Instr.mapUpdate t (ca.eval x) (ca.eval y) (ca.eval v); pure .skip))
    (hk2 : mupdAV k m (st.ev y') (st.ev v') o.dst K st H) : o.wp P ca w (Post W0 G0 w0 N K) Q := by
  have h1 := (h.opd hx).rel (by rw [hm]; simp)
  obtain ⟨hkey, hgl, hk2⟩ := hk2
  have h2 := (h.opd hy).rel (fun t off e => by rw [e] at hkey; rcases k with k | k | _ <;> first | (cases hkey; done) | (cases k <;> cases hkey))
  have h3 := (h.opd hv).rel (fun t off e => by rw [e] at hgl; cases hgl)
  generalize hvx : ca.eval x = vx at *
  rw [hm] at h1
  cases h1 with
  | map _ B hB =>
    split at hk2
    · rename_i es clock hes
      obtain ⟨B', ms, hB', hh, her⟩ := ERel.of_obj (h.inv.obj m _ hes)
      rw [hB] at hB'; cases hB'
      have hg : (getObj B).run P w = .ok (.map ms.toArray clock) w := by simp [getObj, Sem.run, hh]
      have hnc : ∀ c t f, w.heap[B]? ≠ some (.cells c t f) := fun c t f q => by rw [hh] at q; cases q
      have run : ∀ (q : Option (Nat × Value)) (ob : Obj), (Instr.findKey kt (ca.eval y) ms).run P w = .ok q w →
          ((match q with
            | some (i, _) => (do
              let key ← Instr.keyThatStays (((ms.toArray[i]?).map (fun (x : MapEntry) => x.key)).getD (ca.eval y)) (ca.eval y)
              setObj B (.map (ms.toArray.modify i fun e => { e with key, val := ca.eval v }) clock) : Sem Unit)
            | none => setObj B (.map (ms.toArray.push { key := ca.eval y, val := ca.eval v, born := clock }) (clock + 1))).run P w = .ok () { w with heap := w.heap.setIfInBounds B ob }) →
          (execOp ca.eval o).run P w = .ok .skip { w with heap := w.heap.setIfInBounds B ob } := by
        intro q ob hq hr
        rw [hop]
        simp only [Sem.run_bind, Instr.mapUpdate, run_underlying ht, Result.andThen_ok, hvx, hg, hk.chk _ w hkey h2]
        rw [hq]
        simp only [Result.andThen_ok]
        cases q with
        | none => simp only at hr ⊢; rw [hr]; rfl
        | some p => obtain ⟨i, z⟩ := p; simp only at hr ⊢; rw [hr]; rfl
      have fin : ∀ (es' : List (AV × AV × Nat)) (clock' : Nat) (ms' : List MapEntry), ERel G es' ms' → K (st.set o.dst (.pl undef)) (H.set m (.map es' clock')) → (execOp ca.eval o).run P w = .ok .skip { w with heap := w.heap.setIfInBounds B (.map ms'.toArray clock') } → o.wp P ca w (Post W0 G0 w0 N K) Q := by
        intro es' clock' ms' her' k hrun
        obtain ⟨hi, hn⟩ := h.inv.setObj m B _ (.map es' clock') (.map ms'.toArray clock') hes hB (by simp) (by simp) hnc (fun w' hw' => her'.obj hB hw')
        unfold Oper.wp
        rw [hrun]
        exact ⟨_, _, k, _, _, (h.step hn hi).set o.dst (.of (.pl _)) (by simp)⟩
      split at hk2
      · rename_i i u hf
        obtain ⟨r', q1, q2⟩ := hk.find w h2 her hf
        cases r' with
        | none => exact q2.elim
        | some p =>
          obtain ⟨j', u'⟩ := p
          obtain ⟨rfl, _, _, hlt⟩ := q2
          obtain ⟨e, he, hse, _⟩ := find_scal 0 hf
          simp at he hlt
          have hmi : ms[i]? = some ms[i] := List.getElem?_eq_getElem hlt
          have hsb := hk.same h2 (her.2 i e _ he hmi).1 hse
          refine fin _ _ _ (her.set h2 h3 i) hk2 (run _ _ q1 ?_)
          have hks : (Instr.keyThatStays (((ms.toArray[i]?).map (fun (x : MapEntry) => x.key)).getD (ca.eval y)) (ca.eval y)).run P w = .ok (ca.eval y) w := by
            have : ((ms.toArray[i]?).map (fun (x : MapEntry) => x.key)).getD (ca.eval y) = ms[i].key := by simp [hlt]
            rw [this]
            simp [Instr.keyThatStays, hsb]
          simp only [Sem.run_bind, hks, Result.andThen_ok]
          rw [run_setObj hh (by simp)]
          congr 3
          simp [List.modify_toArray]
      · rename_i hf
        obtain ⟨r', q1, q2⟩ := hk.find w h2 her hf
        cases r' with
        | some p => exact q2.elim
        | none =>
          refine fin _ _ _ (her.push h2 h3 clock) hk2 (run _ _ q1 ?_)
          simp only
          rw [run_setObj hh (by simp)]
          congr 3
          simp
      · exact hk2.elim
    · exact hk2.elim

theorem mkmap_sound (h : Rel W0 G0 w0 N G L st H ca w) (hrun : (execOp ca.eval o).run P w = .ok (.value (.map (some w.heap.size))) (w.alloc (.map #[] 0))) (k : K (st.set o.dst (.map H.length)) (H ++ [.map [] 0])) : o.wp P ca w (Post W0 G0 w0 N K) Q := by
  have hi := h.inv.addB (.map [] 0) (.map #[] 0) 0 (by simp) (ERel.obj (ms := []) (by simp [Ghost.addB]) heap_push_new (.nil _))
  have hn := h.inv.addB_next (.map #[] 0) 0
  refine wp_value0 hrun ?_
  exact ⟨_, _, k, _, _, (h.step hn hi).set o.dst (.of (.map _ _ (by simp [Ghost.addB]))) (by simp)⟩
end
end Go.Qa
