/-
  The law StoreSplits of almanaclaw20 answers true for every path and every list of users whose bulk is at most 1048576: the evaluator, its soundness, what each function answers, the row and its card. This part: EvPrim, EvAll, EvTop, EvTab.
-/
import Derived.Laws.Externs
import Derived.Lib.IndexEntry
import Derived.Lib.MakeNoZero
import Derived.OpenShut
import Derived.Carry
import Derived.Test.YtdiolabaijfolaaGreatDoorEb
set_option linter.all false
/- Functions of the runtime's that are no code. -/
namespace Go.Ev
open Go
variable {E : Env} {X : Ctx} {H : Heap} {bar : Nat}

theorem lowF_prim {f : FuncId} {fn : Func} {p : Prim} (h : lowF E f fn = some (.prim p)) : fn.body = none ∧
    ((∃ t e, fn.name = "internal/bytealg.MakeNoZero" ∧ fn.resultTypes.toList = [t] ∧ E.P.underlying t = some (.slice e) ∧ p = .makeNoZero e) ∨ (fn.name, p) ∈ prims) := by
  unfold lowF at h
  split at h
  · obtain ⟨_, _, h⟩ := bind_some h; cases h
  · rename_i hb
    refine ⟨hb, ?_⟩
    split at h
    · rename_i hn
      split at h
      · rename_i t ht
        obtain ⟨e, h1, h2⟩ := map_some h
        cases h2
        exact .inl ⟨t, e, hn, ht, elemOfSl_inv h1, rfl⟩
      · cases h
    · obtain ⟨q, h1, h2⟩ := map_some h
      cases h2
      right
      generalize fn.name = nm at h1
      simp only [prims, List.lookup] at h1
      simp only [prims]
      repeat' first
        | (cases h1; done)
        | (split at h1)
        | (rename_i hq; cases h1; have := eq_of_beq hq; subst this; simp; done)

theorem value_of_extern {f : FuncId} {fn : Func} (hf : E.P.funcs[f]? = some fn) (hn : fn.name ≠ "runtime.NumGoroutine") (hb : fn.body = none) (hx : Extern.findNext fn = none) {e : Array Value → Sem Value} (he : Extern.find fn = some e)
    {args : List V} {cargs : List Value} {v : V} {c : Value} (hno : ∀ g x y, V.fn g x y ∉ args) (st : St E X H) (hr : (e cargs.toArray).run E.P X.w = .ok c X.w) (hv : VRel X v c) : FOk E f args cargs X H bar (.ok v) H := by
  refine .inl ⟨hno, c, X, v, rfl, ?_, st, Ext.refl _ _ _, hv⟩
  rw [run_callFunc_extern hf (by simpa using hn) (by rw [hb]; rfl) hx he, hr]
  rfl

theorem find_name {fn : Func} {s : String} {e : Array Value → Sem Value} (hn : fn.name = s) (h1 : Extern.allGenericRows.lookup s = none) (h2 : Extern.allTypedRows.lookup s = none) (h3 : Extern.allRows.lookup s = some e) : Extern.find fn = some e := by
  unfold Extern.find
  simp [hn, h1, h2, h3]

theorem find_countStr {fn : Func} (hn : fn.name = "internal/bytealg.CountString") : Extern.find fn = some Extern.BytealgCount.count := find_name hn (by rfl) (by rfl) (by rfl)
theorem find_indexByte {fn : Func} (hn : fn.name = "internal/bytealg.IndexByteString") : Extern.find fn = some Extern.BytealgIndexByte.indexByte := find_name hn (by rfl) (by rfl) (by rfl)
theorem find_indexStr {fn : Func} (hn : fn.name = "internal/bytealg.IndexString") : Extern.find fn = some Extern.BytealgIndex.index := find_name hn (by rfl) (by rfl) (by rfl)
theorem find_noEscape {fn : Func} (hn : fn.name = "internal/abi.NoEscape") : Extern.find fn = some Extern.AbiNoEscape.same := find_name hn (by rfl) (by rfl) (by rfl)
theorem find_cmp {fn : Func} (hn : fn.name = "internal/bytealg.abigen_runtime_cmpstring") : Extern.find fn = some Extern.BytealgCompare.compare := find_name hn (by rfl) (by rfl) (by rfl)

theorem noEscape_inv {args : List V} {cr : CR} {H' : Heap} (hv : primV .noEscape args H = some (cr, H')) : ∃ x, args = [x] ∧ (∀ g y z, x ≠ V.fn g y z) ∧ cr = .ok x ∧ H' = H := by
  unfold primV at hv
  split at hv <;> try contradiction
  · cases hv; exact ⟨_, rfl, by simp, rfl, rfl⟩
  · cases hv; exact ⟨_, rfl, by simp, rfl, rfl⟩

theorem countStr_inv {args : List V} {cr : CR} {H' : Heap} (hv : primV .countStr args H = some (cr, H')) : ∃ s c, args = [.str s, .int .u8 c] ∧ cr = .ok (.int .i64 (countL (UInt8.ofNat c.toNat) s)) ∧ H' = H := by
  unfold primV at hv
  split at hv <;> try contradiction
  cases hv; exact ⟨_, _, rfl, rfl, rfl⟩

theorem indexByte_inv {args : List V} {cr : CR} {H' : Heap} (hv : primV .indexByte args H = some (cr, H')) : ∃ s c, args = [.str s, .int .u8 c] ∧ cr = .ok (.int .i64 (indexByteL (UInt8.ofNat c.toNat) s 0)) ∧ H' = H := by
  unfold primV at hv
  split at hv <;> try contradiction
  cases hv; exact ⟨_, _, rfl, rfl, rfl⟩

theorem cmp_inv {args : List V} {cr : CR} {H' : Heap} (hv : primV .cmpStr args H = some (cr, H')) : ∃ s t, args = [.str s, .str t] ∧ cr = .ok (.int .i64 (if bytesLess s t then -1 else if s == t then 0 else 1)) ∧ H' = H := by
  unfold primV at hv
  split at hv <;> try contradiction
  cases hv; exact ⟨_, _, rfl, rfl, rfl⟩

theorem ba_get (s : List UInt8) (i : Nat) (h : i < s.length) : (⟨s.toArray⟩ : ByteArray)[i]! = s[i] := by
  rw [getElem!_pos (⟨s.toArray⟩ : ByteArray) i (by show i < s.toArray.size; simpa using h)]
  rfl

theorem find_range {p : Nat → Bool} : ∀ (n : Nat), (List.range (n + 1)).find? p = if p 0 then some 0 else ((List.range n).find? (fun i => p (i + 1))).map (· + 1)
  | n => by
    rw [List.range_succ_eq_map, List.find?_cons]
    split
    · rename_i h; simp [h]
    · rename_i h
      rw [List.find?_map]
      simp only [h, Bool.false_eq_true, if_false]
      rfl

theorem find_congr {p q : Nat → Bool} : ∀ {l : List Nat}, (∀ i ∈ l, p i = q i) → l.find? p = l.find? q
  | [], _ => rfl
  | x :: l, h => by
    rw [List.find?_cons, List.find?_cons, h x (by simp), find_congr fun i hi => h i (by simp [hi])]

theorem indexByteL_find (c : UInt8) : ∀ (s : List UInt8) (k : Nat), indexByteL c s k = match (List.range s.length).find? (fun i => s.getD i 0 == c) with | some i => ((k + i : Nat) : Int) | none => -1
  | [], k => rfl
  | b :: s, k => by
    simp only [indexByteL, List.length_cons, find_range, List.getD_cons_zero, List.getD_cons_succ]
    split
    · simp
    · rw [indexByteL_find c s (k + 1)]
      cases (List.range s.length).find? (fun i => s.getD i 0 == c) with
      | none => rfl
      | some i =>
        show (((k + 1 + i : Nat)) : Int) = ((k + (i + 1) : Nat) : Int)
        congr 1; omega

theorem firstIdx_eq (s : List UInt8) (c : UInt8) : firstIdx ⟨s.toArray⟩ c = indexByteL c s 0 := by
  unfold firstIdx
  rw [indexByteL_find, find_congr (q := fun i => s.getD i 0 == c)]
  · have : (⟨s.toArray⟩ : ByteArray).size = s.length := by show s.toArray.size = _; simp
    rw [this]
    cases (List.range s.length).find? (fun i => s.getD i 0 == c) <;> simp
  · intro i hi
    have hi' : i < s.length := by
      have := List.mem_range.1 hi
      have e : (⟨s.toArray⟩ : ByteArray).size = s.length := by show s.toArray.size = _; simp
      omega
    rw [ba_get s i hi', List.getD_eq_getElem?_getD]
    simp [hi']

theorem count_eq (c : UInt8) : ∀ s : List UInt8, Lib.countByte s c = countL c s
  | [] => rfl
  | b :: s => by
    have ih := count_eq c s
    unfold Lib.countByte at ih ⊢
    rw [List.count_cons, ih, countL]
    split <;> omega

theorem run_count {P : Program} (s : List UInt8) (c : Int) (w : World) : (Extern.BytealgCount.count #[.string ⟨s.toArray⟩, .int .u8 c]).run P w = .ok (.int .i64 (countL (UInt8.ofNat c.toNat) s)) w := by
  rw [Lib.run_countString, count_eq]

theorem cmp_eq : ∀ (s t : List UInt8), Lib.compareBytes s t = if bytesLess s t then -1 else if s == t then 0 else 1
  | [], [] => by simp [Lib.compareBytes, bytesLess]
  | [], _ :: _ => by simp [Lib.compareBytes, bytesLess]
  | _ :: _, [] => by simp [Lib.compareBytes, bytesLess]
  | a :: s, b :: t => by
    simp only [Lib.compareBytes, bytesLess, cmp_eq s t]
    by_cases h1 : a < b
    · simp [h1]
    · by_cases h2 : b < a
      · have h3 : ¬ a = b := fun e => by subst e; exact h1 h2
        simp [h1, h2, h3]
      · have h3 : a = b := by
          have h4 : ¬ a.toNat < b.toNat := fun h => h1 (UInt8.lt_iff_toNat_lt.2 h)
          have h5 : ¬ b.toNat < a.toNat := fun h => h2 (UInt8.lt_iff_toNat_lt.2 h)
          exact UInt8.toNat_inj.1 (by omega)
        subst h3
        simp [h1]

theorem isPre_eq : ∀ (t s : List UInt8), isPre t s = t.isPrefixOf s
  | [], _ => by simp [isPre]
  | _ :: _, [] => by simp [isPre]
  | a :: t, b :: s => by rw [isPre, isPre_eq t s]; rfl

theorem indexStrL_eq (t : List UInt8) : ∀ (s : List UInt8) (k : Nat), indexStrL t s k = if Lib.index s t = -1 then -1 else Lib.index s t + k
  | [], k => by
    unfold indexStrL Lib.index
    split <;> simp
  | b :: s, k => by
    have hge := Lib.index_ge s t
    unfold indexStrL Lib.index
    rw [isPre_eq, indexStrL_eq t s (k + 1)]
    split
    · simp
    · by_cases h : Lib.index s t = -1
      · simp [h]
      · have h' : (Lib.index s t == -1) = false := by simpa using h
        simp only [h, h', if_false, Bool.false_eq_true]
        rw [if_neg (by omega)]
        omega

/-- The longest needle that the machine's search takes at once is known well enough. -/
def MaxLenOk (E : Env) : Prop := ∃ g m, E.P.globals.findIdx? (·.name == "internal/bytealg.MaxLen") = some g ∧ E.globs g = some [.int .i64 m] ∧ 31 ≤ m

theorem run_index (hm : MaxLenOk E) (hg : Glob E X) {s t : List UInt8} (h1 : 2 ≤ t.length) (h2 : t.length ≤ 31) (h3 : s.length < 4294967281) :
    (Extern.BytealgIndex.index #[.string ⟨s.toArray⟩, .string ⟨t.toArray⟩]).run E.P X.w = .ok (.int .i64 (indexStrL t s 0)) X.w := by
  obtain ⟨g, m, e1, e2, e3⟩ := hm
  have hr := hg g _ e2
  unfold VRel at hr
  obtain ⟨b, o, e, hc⟩ := hr
  injection e with e
  injection e with e
  injection e with e4 e5
  obtain rfl : o = 0 := by omega
  subst e4
  unfold CRel at hc
  obtain ⟨⟨_, c, hcell, _, hcv⟩, _⟩ := hc
  unfold VRel at hcv
  subst hcv
  have hs1 : (⟨t.toArray⟩ : ByteArray).size = t.length := by show t.toArray.size = _; simp
  have hs2 : (⟨s.toArray⟩ : ByteArray).size = s.length := by show s.toArray.size = _; simp
  rw [Lib.run_indexString ⟨s.toArray⟩ ⟨t.toArray⟩ X.w g m e1 hcell (by omega) (by omega) (by omega), indexStrL_eq]
  congr 2
  show Lib.index s t = _
  split <;> simp_all

theorem indexStr_inv {args : List V} {cr : CR} {H' : Heap} (hv : primV .indexStr args H = some (cr, H')) : ∃ s t, args = [.str s, .str t] ∧ (2 ≤ t.length ∧ t.length ≤ 31 ∧ s.length < 4294967281) ∧ cr = .ok (.int .i64 (indexStrL t s 0)) ∧ H' = H := by
  unfold primV at hv
  split at hv <;> try contradiction
  split at hv
  · rename_i h; cases hv; exact ⟨_, _, rfl, h, rfl, rfl⟩
  · cases hv

theorem makeNoZero_inv {e : TypeId} {args : List V} {cr : CR} {H' : Heap} (hv : primV (.makeNoZero e) args H = some (cr, H')) : ∃ n, args = [.int .i64 n] ∧ (0 ≤ n ∧ n ≤ 281474976710656) ∧ cr = .ok (.own H.length 0 0 n.toNat 1 none) ∧ H' = H ++ [.cells e [] 0 0 false] := by
  unfold primV at hv
  split at hv <;> try contradiction
  split at hv
  · rename_i h1 h; cases h1; cases hv; exact ⟨_, rfl, h, rfl, rfl⟩
  · cases hv

theorem find_makeNoZero {fn : Func} (hn : fn.name = "internal/bytealg.MakeNoZero") : Extern.find fn = some (Extern.BytealgMakeNoZero.makeNoZero fn.params fn.resultTypes) := by
  unfold Extern.find
  have h1 : Extern.allGenericRows.lookup "internal/bytealg.MakeNoZero" = none := by rfl
  have h2 : Extern.allTypedRows.lookup "internal/bytealg.MakeNoZero" = some Extern.BytealgMakeNoZero.makeNoZero := by rfl
  simp [hn, h1, h2]

theorem prim_ok {f : FuncId} {fn : Func} (hmx : fn.name = "internal/bytealg.IndexString" → MaxLenOk E) (hf : E.P.funcs[f]? = some fn) (hn : fn.name ≠ "runtime.NumGoroutine") (hx : fn.body = none → Extern.findNext fn = none) {p : Prim} (hp : lowF E f fn = some (.prim p)) {args : List V} {cargs : List Value} {cr : CR} {H' : Heap} (hv : primV p args H = some (cr, H'))
    (st : St E X H) (hg : Glob E X) (hb : bar ≤ H.length) (ha : LRel X args cargs) : FOk E f args cargs X H bar cr H' := by
  obtain ⟨hbody, hp⟩ := lowF_prim hp
  have hx := hx hbody
  rcases hp with ⟨t, e, hname, ht, hu, rfl⟩ | hp
  · obtain ⟨n, rfl, ⟨h1, h2⟩, rfl, rfl⟩ := makeNoZero_inv hv
    obtain ⟨n, rfl⟩ : ∃ k : Nat, n = k := ⟨n.toNat, by omega⟩
    unfold LRel at ha
    obtain ⟨c1, r, rfl, hc1, hr⟩ := ha
    rw [LRel.nil_iff.1 hr]
    unfold VRel at hc1
    subst hc1
    have ht' : fn.resultTypes = #[t] := by
      apply Array.toList_inj.1
      simpa using ht
    obtain ⟨cs, q1, q2, _⟩ := Lib.run_makeNoZero (P := E.P) X.w fn.params t e hu n (by omega)
    obtain ⟨Y, y1, y2, y3, y4, y5⟩ := newCells (bar := bar) st hb (w' := X.w.drew.drew.alloc (.cells cs e)) (arr := cs) (el := e) (cs := []) (fr := (0, 0)) rfl (.inr rfl) (by simp) (by simp only [List.length_nil, List.take_zero]; exact LRel.nil) (by simp)
    refine .inl ⟨by simp, .slice (some ⟨X.w.heap.size, 0, none⟩) n cs.size, Y, _, rfl, ?_, y4, y5, by simpa using own_rel (n := n) (es := 1) (cap := cs.size) (c := none) y2 y3 q2 (by simp) (by simp)⟩
    rw [run_callFunc_extern hf (by simpa using hn) (by rw [hbody]; rfl) hx (find_makeNoZero hname), ht', q1, y1]
    rfl
  · simp only [prims, List.mem_cons, Prod.mk.injEq, List.not_mem_nil, or_false] at hp
    rcases hp with ⟨hname, rfl⟩ | ⟨hname, rfl⟩ | ⟨hname, rfl⟩ | ⟨hname, rfl⟩ | ⟨hname, rfl⟩
    · obtain ⟨s, c, rfl, rfl, rfl⟩ := indexByte_inv hv
      unfold LRel at ha
      obtain ⟨c1, r, rfl, hc1, hr⟩ := ha
      unfold LRel at hr
      obtain ⟨c2, r, rfl, hc2, hr⟩ := hr
      rw [LRel.nil_iff.1 hr]
      unfold VRel at hc1 hc2
      subst hc1 hc2
      refine value_of_extern (c := .int .i64 (indexByteL (UInt8.ofNat c.toNat) s 0)) hf hn hbody hx (find_indexByte hname) (by simp) st ?_ (by unfold VRel; rfl)
      rw [← firstIdx_eq]
      exact run_indexByte_string _ _ _
    · obtain ⟨s, t, rfl, ⟨k1, k2, k3⟩, rfl, rfl⟩ := indexStr_inv hv
      unfold LRel at ha
      obtain ⟨c1, r, rfl, hc1, hr⟩ := ha
      unfold LRel at hr
      obtain ⟨c2, r, rfl, hc2, hr⟩ := hr
      rw [LRel.nil_iff.1 hr]
      unfold VRel at hc1 hc2
      subst hc1 hc2
      exact value_of_extern (c := .int .i64 (indexStrL t s 0)) hf hn hbody hx (find_indexStr hname) (by simp) st (run_index (hmx hname) hg k1 k2 k3) (by unfold VRel; rfl)
    · obtain ⟨s, c, rfl, rfl, rfl⟩ := countStr_inv hv
      unfold LRel at ha
      obtain ⟨c1, r, rfl, hc1, hr⟩ := ha
      unfold LRel at hr
      obtain ⟨c2, r, rfl, hc2, hr⟩ := hr
      rw [LRel.nil_iff.1 hr]
      unfold VRel at hc1 hc2
      subst hc1 hc2
      exact value_of_extern (c := .int .i64 (countL (UInt8.ofNat c.toNat) s)) hf hn hbody hx (find_countStr hname) (by simp) st (run_count _ _ _) (by unfold VRel; rfl)
    · obtain ⟨x, rfl, hno, rfl, rfl⟩ := noEscape_inv hv
      unfold LRel at ha
      obtain ⟨c, r, rfl, hc, hr⟩ := ha
      rw [LRel.nil_iff.1 hr]
      exact value_of_extern hf hn hbody hx (find_noEscape hname) (by intro g y z h; simp at h; exact hno g y z h.symm) st rfl hc
    · obtain ⟨s, t, rfl, rfl, rfl⟩ := cmp_inv hv
      unfold LRel at ha
      obtain ⟨c1, r, rfl, hc1, hr⟩ := ha
      unfold LRel at hr
      obtain ⟨c2, r, rfl, hc2, hr⟩ := hr
      rw [LRel.nil_iff.1 hr]
      unfold VRel at hc1 hc2
      subst hc1 hc2
      refine value_of_extern (c := .int .i64 (if bytesLess s t then -1 else if s == t then 0 else 1)) hf hn hbody hx (find_cmp hname) (by simp) st ?_ (by unfold VRel; rfl)
      rw [Lib.run_compareString, cmp_eq]

end Go.Ev
/- All calls: what the evaluator says is what the machine does. -/
namespace Go.Ev
open Go
variable {E : Env} {X : Ctx} {H : Heap} {bar : Nat}

def TabOk (E : Env) (T : Tab) : Prop := ∀ f x, T f = some x → ∃ fn, E.P.funcs[f]? = some fn ∧ fn.name ≠ "runtime.NumGoroutine" ∧ (fn.body = none → Extern.findNext fn = none) ∧ (fn.name = "internal/bytealg.IndexString" → MaxLenOk E) ∧ (E.quiet f = true → fn.body ≠ none) ∧ lowF E f fn = some x

theorem lowF_code {f : FuncId} {fn : Func} {nt : Nat} {rs : List Rv} {q : Bool} {b : IR} (h : lowF E f fn = some (.code nt rs q b)) : ∃ c, fn.body = some c ∧ nt = fn.ntmps ∧ mapO (lowRes E) fn.results.toList = some rs ∧ b = lowC E c := by
  unfold lowF at h
  split at h
  · rename_i c hc
    obtain ⟨rs', h1, h⟩ := bind_some h
    cases h
    exact ⟨c, hc, rfl, h1, rfl⟩
  · split at h
    · split at h
      · obtain ⟨_, _, h⟩ := map_some h; cases h
      · cases h
    · obtain ⟨_, _, h⟩ := map_some h; cases h

theorem fold_ok : ∀ (ps : List Nat) {args : List V} {cargs : List Value} {env : List V} {tmps : Array Value}, LRel X env tmps.toList → LRel X args cargs →
    LRel X ((ps.zip args).foldl (fun e (t, a) => e.set t a) env) (((ps.zip cargs).foldl (fun (tmps : Array Value) (t, a) => tmps.setIfInBounds t a) tmps)).toList
  | [], _, _, _, _, he, _ => he
  | p :: ps, args, cargs, env, tmps, he, ha => by
    cases args with
    | nil => rw [LRel.nil_iff.1 ha]; exact he
    | cons v args =>
      unfold LRel at ha
      obtain ⟨c, r, rfl, hc, hr⟩ := ha
      simp only [List.zip_cons_cons, List.foldl_cons]
      refine fold_ok ps ?_ hr
      rw [Array.toList_setIfInBounds]
      exact he.set p hc

theorem round_ok {T : Tab} {n0 : Nat} (hC : COk E (callN T n0)) (hQC : QuietC E (callN T n0)) (hmix : E.P.follows .mixedOrders = true) {l : Nat} {args : List V} {cr : CR} {H' : Heap} (hv : callN T (n0 + 1) (.yield l) args H bar = some (cr, H')) {cargs : List Value}
    (st : St E X H) (hg : Glob E X) (hb : bar ≤ H.length) (ha : LRel X args cargs) {b : Nat} (hρ : X.ρ l = some (.ob b)) :
    ∃ fn tmps as bd, (Instr.yield b cargs.toArray).run E.P X.w = .ok (.round b fn tmps as bd) X.w ∧ ∀ n, RoundIn Fence.wide n E.P b fn tmps as bd X.w (Post E bar X H cr H') := by
  simp only [callN] at hv
  split at hv
  · rename_i jj env ps as0 bd0 hH
    obtain ⟨e, he, hr⟩ := st.obj l _ hH
    rw [hρ] at he
    cases he
    obtain ⟨L, hL, hs, hj, hle, hp, has, hbd⟩ := hr
    split at hv
    · rename_i hcond
      obtain ⟨hlen, hbar⟩ := hcond
      have hsz : cargs.toArray.size = L.params.size := by
        have := ha.length
        rw [hp] at hlen
        simp at hlen ⊢
        omega
      refine ⟨L.fn, _, L.assign, L.body, run_yield hL hsz, fun n => roundIn_of_wpIn trivial ?_⟩
      cases h1 : exec (callN T n0) n0 bar (some l) as0 ((ps.zip args).foldl (fun e (t, a) => e.set t a) env) H with
      | none => rw [h1] at hv; cases hv
      | some q1 =>
        obtain ⟨o1, env1, H1⟩ := q1
        rw [h1] at hv
        cases o1 with
        | ret => cases hv
        | exit id => cases hv
        | pan v => cases hv
        | norm =>
          simp only at hv
          have htm : LRel X ((ps.zip args).foldl (fun e (t, a) => e.set t a) env) ((L.params.zip cargs.toArray).foldl (fun (tmps : Array Value) (t, a) => tmps.setIfInBounds t a) L.tmps).toList := by
            have := fold_ok (X := X) ps hle ha
            rw [hp] at this ⊢
            rw [← Array.foldl_toList, Array.toList_zip]
            exact this
          have R : Run E bar X.w.heap.size (some l) (some b) X H ((ps.zip args).foldl (fun e (t, a) => e.set t a) env) { tmps := (L.params.zip cargs.toArray).foldl (fun (tmps : Array Value) (t, a) => tmps.setIfInBounds t a) L.tmps, defers := [] } :=
            ⟨st, hb, hg, htm, hρ, Nat.le_refl _, ⟨[], rfl, List.nodup_nil, by simp⟩⟩
          rw [has] at h1
          refine code_ok hC (callN_fill T n0) hQC hmix L.assign (r := some b) R h1 ?_
          intro e a' w' hr
          obtain ⟨Y, rfl, st1, hx1, he1, ho1, hm1⟩ := hr
          cases ho1
          have hρ1 : Y.ρ l = some (.ob b) := hx1.le.ob _ _ hρ
          split at hv
          · rename_i j1 e1 p1 a1 b1 hH1
            obtain ⟨e, he, hr⟩ := st1.obj l _ hH1
            rw [hρ1] at he
            cases he
            obtain ⟨L1, hL1, hs1, hj1, hle1, hp1, has1, hbd1⟩ := hr
            have hb1 : b < Y.w.heap.size := (Array.getElem?_eq_some_iff.1 hL1).1
            refine ⟨_, run_beginRound hL1 hs1, ?_⟩
            obtain ⟨Y2, y1, st2, hx2⟩ := st1.setOb (bar := bar) (o2 := .loop .busy j1 e1 p1 a1 b1) (ob2 := .loop { L1 with state := .busy }) hH1 hρ1 hbar hL1 (by simp) rfl rfl (w' := Y.w.putObj b (.loop { L1 with state := .busy })) rfl
              (fun Y' le hw => ⟨{ L1 with state := .busy }, by rw [hw]; show (Y.w.heap.setIfInBounds b _)[b]? = _; simp [hb1], rfl, hj1, LRel.le le _ hle1, hp1, has1, hbd1⟩)
            have hx12 := hx1.trans hx2
            have R2 := R.next st2 hx12 (LRel.le hx2.le _ he1) (hm1.ext hx2)
            cases h2 : exec (callN T n0) n0 bar (some l) bd0 env1 (H1.set l (.loop .busy j1 e1 p1 a1 b1)) with
            | none => rw [h2] at hv; cases hv
            | some q2 =>
              obtain ⟨o2, env2, H2⟩ := q2
              rw [h2] at hv
              rw [hbd] at h2
              rw [← y1]
              refine code_ok hC (callN_fill T n0) hQC hmix L.body (r := some b) R2 h2 ?_
              intro e a2 w2 hr
              obtain ⟨Z, rfl, st3, hx3, he3, ho3, hm3⟩ := hr
              have hρ3 : Z.ρ l = some (.ob b) := hx3.le.ob _ _ (hx2.le.ob _ _ hρ1)
              simp only at hv
              split at hv
              · rename_i j2 e2 p2 a2' b2 hH2
                obtain ⟨e, he, hr⟩ := st3.obj l _ hH2
                rw [hρ3] at he
                cases he
                obtain ⟨L2, hL2, hs2, hj2, hle2, hp2, has2, hbd2⟩ := hr
                have hb2 : b < Z.w.heap.size := (Array.getElem?_eq_some_iff.1 hL2).1
                have hend : ∀ (jump : Option Code) (st' : Ls) (j' : Jump), lsRel st' (if jump.isNone then .ready else .done) → jumpRel j' jump → some (CR.ok (.bool jump.isNone), H2.set l (.loop st' j' e2 p2 a2' b2)) = some (cr, H') →
                    ∃ v w', (Instr.endRound b jump).run E.P Z.w = .ok v w' ∧ Post E bar X H cr H' (.returned v) w' := by
                  intro jump st' j' h1 h2 h3
                  cases h3
                  obtain ⟨Z2, z1, z2, z3⟩ := st3.setOb (bar := bar) (o2 := .loop st' j' e2 p2 a2' b2) (ob2 := .loop { L2 with state := if jump.isNone then .ready else .done, pending := jump }) hH2 hρ3 hbar hL2 (by simp) rfl rfl (w' := Z.w.putObj b (.loop { L2 with state := if jump.isNone then .ready else .done, pending := jump })) rfl
                    (fun Y' le hw => ⟨{ L2 with state := if jump.isNone then .ready else .done, pending := jump }, by rw [hw]; show (Z.w.heap.setIfInBounds b _)[b]? = _; simp [hb2], h1, h2, LRel.le le _ hle2, hp2, has2, hbd2⟩)
                  exact ⟨_, _, run_endRound jump hL2, Z2, _, rfl, z1, z2, (hx12.trans hx3).trans z3, by unfold VRel; rfl⟩
                cases o2 with
                | norm => cases ho3; exact hend none .ready .none rfl rfl hv
                | ret => cases ho3; exact hend (some .ret) .done .ret rfl rfl hv
                | exit id => cases ho3; exact hend (some (.exit id)) .done (.exit id) rfl rfl hv
                | pan v => cases hv
              · cases hv
          · cases hv
    · cases hv
  · cases hv

theorem quietC_ok {T : Tab} (hT : TabOk E T) : ∀ n, QuietC E (callN T n)
  | 0 => fun f _ => .inl fun _ _ _ => rfl
  | n + 1 => fun f hq => by
    cases hTf : T f with
    | none => exact .inl fun _ _ _ => by simp [callN, hTf]
    | some y =>
      obtain ⟨fn, hf, hn, _, _, hb, hl⟩ := hT _ _ hTf
      cases y with
      | code nt rs q body =>
        right
        refine ⟨fun as h b => runF (callN T n) n b nt rs body as h, fun args H bar => ?_⟩
        have : q = true := by
          unfold lowF at hl
          split at hl
          · obtain ⟨rs', _, hl⟩ := bind_some hl
            cases hl; exact hq
          · exact absurd (by assumption) (hb hq)
        subst this
        simp [callN, hTf]
      | prim p => exact absurd (lowF_prim hl).1 (hb hq)

theorem callN_ok {T : Tab} (hT : TabOk E T) (hgf : GlobFree E) (hmix : E.P.follows .mixedOrders = true) : ∀ n, COk E (callN T n)
  | 0 => fun callee args H bar cr H' h => by simp [callN] at h
  | n0 + 1 => by
    have hC := callN_ok hT hgf hmix n0
    intro callee args H bar cr H' hv X cargs st hg hb ha
    cases callee with
    | yield l => exact fun b hρ => round_ok hC (quietC_ok hT n0) hmix hv st hg hb ha hρ
    | f f =>
      simp only [callN] at hv
      split at hv
      · rename_i nt rs q body hTf
        obtain ⟨fn, hf, hn, _, _, _, hl⟩ := hT _ _ hTf
        obtain ⟨c, hc, rfl, hrs, rfl⟩ := lowF_code hl
        refine .inr ⟨?_, ?_⟩
        · simp [callFunc, hf, hn, hc]
        · intro n
          split at hv
          · exact quiet_ok hgf (fun {X H bar args cargs cr H'} hv st hg hb ha n => runF_ok hC (callN_fill T n0) (quietC_ok hT n0) hmix hf hc hrs hv st hg hb ha n) hv st hg hb ha n
          · exact runF_ok hC (callN_fill T n0) (quietC_ok hT n0) hmix hf hc hrs hv st hg hb ha n
      · rename_i p hTf
        obtain ⟨fn, hf, hn, hx, hmx, _, hl⟩ := hT _ _ hTf
        exact prim_ok hmx hf hn hx hl hv st hg hb ha
      · cases hv

end Go.Ev
/- From a statement's data to the evaluator's values, and back to the statement's contract. -/
namespace Go.Ev
open Go
variable {H : Type} {enc : TypeId × Value → H} {P : Program} {w : World} {spare : Nat → Bool} {held : Bool}

mutual
/-- A datum as the evaluator's cells. -/
def cellsD {H : Type} : DataW H → List V
  | .lit (.bool b) => [.bool b]
  | .lit (.int k n) => [.int k n]
  | .lit (.string l) => [.str l]
  | .nil => [.vec true none []]
  | .slice elems _ => [.vec false none (rowsD elems)]
  | .agg parts => flatD parts
  | _ => []
def rowsD {H : Type} : List (DataW H) → List (List V)
  | [] => []
  | d :: r => cellsD d :: rowsD r
def flatD {H : Type} : List (DataW H) → List V
  | [] => []
  | d :: r => cellsD d ++ flatD r
end

theorem rowsD_map {H : Type} : ∀ l : List (DataW H), rowsD l = l.map cellsD
  | [] => rfl
  | d :: r => by rw [rowsD, rowsD_map r]; rfl
theorem flatD_map {H : Type} : ∀ l : List (DataW H), flatD l = l.flatMap cellsD
  | [] => rfl
  | d :: r => by rw [flatD, flatD_map r]; rfl

def tiles (P : Program) : Nat → List Field → Option Nat
  | o, [] => some o
  | o, f :: fs => if f.offset = o then tiles P (o + P.cellsOf f.type) fs else none

/-- Types whose values are bools, numbers, texts, slices, structs and arrays of such alone. -/
def closedB (P : Program) (S : List TypeId) : Bool := S.all fun t => match P.underlying t with
  | some .bool | some (.int _) | some .string => P.cellsOf t == 1
  | some (.slice e) => P.cellsOf t == 1 && S.contains e && decide (0 < P.cellsOf e)
  | some (.struct fs) => fs.toList.all (fun f => S.contains f.type) && tiles P 0 fs.toList == some (P.cellsOf t)
  | some (.array n e) => S.contains e && P.cellsOf t == n * P.cellsOf e
  | _ => false

/-- The state in which a call begins: all that lies there stays as it is. -/
def ctx0 (w : World) : Ctx := ⟨w, fun _ => none, fun b => b < w.heap.size⟩

theorem cell_lt {a : Addr} {c : Value} (h : w.cell? a = some c) : a.block < w.heap.size ∧ a.spot = none := by
  unfold World.cell? at h
  split at h
  · rename_i hb
    refine ⟨(Array.getElem?_eq_some_iff.1 hb).1, ?_⟩
    split at h
    · cases h
    · rename_i hs; simpa using hs
  · cases h

theorem mapM_at {α β : Type} {f : α → Option β} : ∀ {l : List α} {r : List β}, l.mapM f = some r → r.length = l.length ∧ ∀ (i : Nat) (a : α), l[i]? = some a → ∃ b, r[i]? = some b ∧ f a = some b := by
  intro l
  induction l with
  | nil => intro r h; simp at h; subst h; exact ⟨rfl, fun i a h => by simp at h⟩
  | cons x l ih =>
    intro r h
    rw [List.mapM_cons] at h
    simp only [Option.bind_eq_bind, Option.bind_eq_some_iff, Option.pure_def, Option.some.injEq] at h
    obtain ⟨b, h1, r', h2, rfl⟩ := h
    obtain ⟨h3, h4⟩ := ih h2
    refine ⟨by simp [h3], fun i a ha => ?_⟩
    cases i with
    | zero => simp at ha; subst ha; exact ⟨b, rfl, h1⟩
    | succ i => exact h4 i a (by simpa using ha)

/-- Cells read out of memory. -/
theorem cells_crel {vs : List V} {cs : List Value} {base n : Nat} {a : Addr} (h : w.cells? base a n = some cs) (hr : LRel (ctx0 w) vs cs) (hp : ∀ c ∈ cs, plainC c) : cs.length = n ∧ CRel (ctx0 w) vs a.block a.off := by
  unfold World.cells? at h
  split at h
  · obtain ⟨h1, h2⟩ := mapM_at h
    refine ⟨by simpa using h1, CRel.mk fun i v hv => ?_⟩
    obtain ⟨c, hc, hcv⟩ := hr.get i v hv
    have hi : i < n := by
      have := (List.getElem?_eq_some_iff.1 hc).1
      simp at h1; omega
    obtain ⟨c', h3, h4⟩ := h2 i i (by simp [hi])
    rw [hc] at h3
    cases h3
    obtain ⟨h5, h6⟩ := cell_lt h4
    have e : a.add i = ⟨a.block, a.off + i, none⟩ := by
      unfold Addr.add at h6 ⊢
      split
      · rename_i h0
        rw [if_pos h0] at h6
        subst h0
        cases a; simp_all
      · rfl
    rw [e] at h4 h5
    exact ⟨h5, c, h4, hp c (List.mem_of_getElem? hc), hcv⟩
  · cases h

/-- Parts that lie side by side. -/
theorem tiled {fs : List Field} : ∀ {o tot : Nat} {cs : List Value} {xs : List (DataW H × List MemPlace)}, tiles P o fs = some tot → cs.length = tot → xs.length = fs.length →
    (∀ (i : Nat) (f : Field), fs[i]? = some f → ∃ x, xs[i]? = some x ∧ LRel (ctx0 w) (cellsD x.1) ((cs.drop f.offset).take (P.cellsOf f.type)) ∧ ((cs.drop f.offset).take (P.cellsOf f.type)).length = P.cellsOf f.type) →
    o ≤ tot ∧ LRel (ctx0 w) (flatD (xs.map (·.1))) (cs.drop o) := by
  induction fs with
  | nil =>
    intro o tot cs xs ht hl hx _
    cases ht
    have : xs = [] := by simpa using hx
    subst this
    exact ⟨Nat.le_refl _, by rw [List.drop_of_length_le (by omega)]; exact LRel.nil⟩
  | cons f fs ih =>
    intro o tot cs xs ht hl hx h
    simp only [tiles] at ht
    split at ht
    · rename_i ho
      cases xs with
      | nil => simp at hx
      | cons x xs =>
        obtain ⟨x', h1, h2, h3⟩ := h 0 f rfl
        simp at h1
        subst h1
        obtain ⟨k1, k2⟩ := ih ht hl (by simpa using hx) (fun i f hf => h (i + 1) f (by simpa using hf))
        refine ⟨by omega, ?_⟩
        rw [ho] at h2
        simp only [List.map_cons, flatD]
        rw [← List.take_append_drop (P.cellsOf f.type) (cs.drop o), List.drop_drop]
        exact h2.append k2
    · cases ht

theorem arrayed {es : Nat} : ∀ {n o : Nat} {cs : List Value} {xs : List (DataW H × List MemPlace)}, cs.length = (o + n) * es → xs.length = n →
    (∀ i, i < n → ∃ x, xs[i]? = some x ∧ LRel (ctx0 w) (cellsD x.1) ((cs.drop ((o + i) * es)).take es)) → LRel (ctx0 w) (flatD (xs.map (·.1))) (cs.drop (o * es)) := by
  intro n
  induction n with
  | zero =>
    intro o cs xs hl hx _
    have : xs = [] := by simpa using hx
    subst this
    rw [List.drop_of_length_le (by simpa using Nat.le_of_eq hl)]; exact LRel.nil
  | succ n ih =>
    intro o cs xs hl hx h
    cases xs with
    | nil => simp at hx
    | cons x xs =>
      obtain ⟨x', h1, h2⟩ := h 0 (by omega)
      simp at h1
      subst h1
      have := ih (o := o + 1) (cs := cs) (xs := xs) (by rw [hl]; congr 1; omega) (by simpa using hx) (fun i hi => by
        obtain ⟨y, h3, h4⟩ := h (i + 1) (by omega)
        exact ⟨y, by simpa using h3, by rw [show o + 1 + i = o + (i + 1) by omega]; exact h4⟩)
      simp only [List.map_cons, flatD]
      rw [← List.take_append_drop es (cs.drop (o * es)), List.drop_drop]
      refine LRel.append (by simpa using h2) ?_
      rw [show o * es + es = (o + 1) * es by rw [Nat.add_mul]; omega]
      exact this

theorem plain_part {cs : List Value} {o n : Nat} (h : ∀ c ∈ cs, plainC c) : ∀ c ∈ (cs.drop o).take n, plainC c := fun c hc => h c (List.mem_of_mem_drop (List.mem_of_mem_take hc))

theorem trod_rel {S : List TypeId} (hS : closedB P S = true) : ∀ (fuel : Nat) (t : TypeId) (cs : List Value) (x : DataW H × List MemPlace), t ∈ S → DataW.trod enc P w 0 spare held fuel t cs = some x →
    LRel (ctx0 w) (cellsD x.1) cs ∧ cs.length = P.cellsOf t ∧ (cs.all plainB = true) := by
  unfold closedB at hS
  rw [List.all_eq_true] at hS
  intro fuel
  induction fuel with
  | zero => intro t cs x _ h; simp [DataW.trod] at h
  | succ fuel ih =>
    intro t cs x ht h
    have hc := hS t ht
    split at hc
    · rename_i hu
      obtain ⟨b, rfl, rfl⟩ := DataW.trod_bool hu h
      exact ⟨LRel.cons (by unfold VRel; rfl) LRel.nil, by simpa using (beq_iff_eq.1 hc).symm, rfl⟩
    · rename_i k hu
      obtain ⟨n, rfl, rfl, _⟩ := DataW.trod_int hu h
      exact ⟨LRel.cons (by unfold VRel; rfl) LRel.nil, by simpa using (beq_iff_eq.1 hc).symm, rfl⟩
    · rename_i hu
      obtain ⟨s, rfl, rfl, _⟩ := DataW.trod_string hu h
      exact ⟨LRel.cons (by unfold VRel; rfl) LRel.nil, by simpa using (beq_iff_eq.1 hc).symm, rfl⟩
    · rename_i e hu
      simp only [Bool.and_eq_true, beq_iff_eq, decide_eq_true_eq, List.contains_iff_mem] at hc
      obtain ⟨⟨hc1, hc2⟩, hc3⟩ := hc
      rcases DataW.trod_slice hu h with ⟨rfl, rfl⟩ | ⟨a, len, cap, elems, rest, n, hn, rfl, rfl, _, hle, _, hel, hat, _⟩
      · refine ⟨LRel.cons ?_ LRel.nil, by simpa using hc1.symm, rfl⟩
        unfold VRel
        exact ⟨none, 0, rfl, Nat.le_refl _, by simp, ⟨0, by simp⟩, fun _ => ⟨rfl, rfl⟩, fun h => by cases h⟩
      · cases hn
        refine ⟨LRel.cons ?_ LRel.nil, by simpa using hc1.symm, rfl⟩
        have hrow : ∀ (i : Nat) (y : DataW H × List MemPlace), elems[i]? = some y → (cellsD y.1).length = P.cellsOf e ∧ (i = 0 → a.spot = none) ∧ CRel (ctx0 w) (cellsD y.1) a.block (a.off + i * P.cellsOf e) := by
          intro i y hy
          have hi : i < len := by rw [← hel]; exact (List.getElem?_eq_some_iff.1 hy).1
          have h1 := hat i hi
          rw [hy, Option.bind_eq_some_iff] at h1
          obtain ⟨cs', h2, h3⟩ := h1
          obtain ⟨r1, r2, r3⟩ := ih e cs' y hc2 h3
          have r3' : ∀ c ∈ cs', plainC c := fun c hcm => by
            have := List.all_eq_true.1 r3 c hcm
            cases c <;> first | trivial | cases this
          obtain ⟨_, r4⟩ := cells_crel h2 r1 r3'
          refine ⟨by rw [r1.length, r2], fun h0 => ?_, ?_⟩
          · subst h0
            unfold World.cells? at h2
            split at h2
            · obtain ⟨_, h4⟩ := mapM_at h2
              obtain ⟨c, _, h5⟩ := h4 0 0 (by simp [hc3])
              have := (cell_lt h5).2
              simpa [Addr.add] using this
            · cases h2
          · unfold Addr.add at r4
            split at r4
            · rename_i h0
              rw [h0]; exact r4
            · exact r4
        have hlen : (rowsD (elems.map (·.1))).length = elems.length := by rw [rowsD_map]; simp
        have hget : ∀ i : Nat, (rowsD (elems.map (·.1)))[i]? = (elems[i]?).map fun y => cellsD y.1 := by
          intro i; rw [rowsD_map, List.getElem?_map, List.getElem?_map]; cases elems[i]? <;> rfl
        show VRel (ctx0 w) (.vec false none (rowsD (elems.map (·.1)))) _
        unfold VRel
        refine ⟨some a, cap, by rw [hlen, hel], by rw [hlen, hel]; exact hle, by simp, ⟨P.cellsOf e, fun r hr => ?_⟩, (fun h => by cases h), fun _ => ⟨a.block, a.off, a, rfl, fun hne => ?_, ?_⟩⟩
        · obtain ⟨i, hi⟩ := List.getElem?_of_mem hr
          rw [hget] at hi
          obtain ⟨y, hy, rfl⟩ := Option.map_eq_some_iff.1 hi
          exact (hrow i y hy).1
        · cases helems : elems with
          | nil => rw [helems] at hne; exact absurd rfl hne
          | cons y ys =>
            have := (hrow 0 y (by rw [helems]; rfl)).2.1 rfl
            cases a; simp_all
        · refine RRel.of_flat (CRel.mk fun k v hv => ?_)
          have hes : ∀ r ∈ rowsD (elems.map (·.1)), r.length = P.cellsOf e := by
            intro r hr
            obtain ⟨i, hi⟩ := List.getElem?_of_mem hr
            rw [hget] at hi
            obtain ⟨y, hy, rfl⟩ := Option.map_eq_some_iff.1 hi
            exact (hrow i y hy).1
          -- cell k is cell k % es of row k / es
          have key : ∀ (rows : List (List V)) (o : Nat), (∀ r ∈ rows, r.length = P.cellsOf e) → (∀ (i : Nat) (r : List V), rows[i]? = some r → CRel (ctx0 w) r a.block (o + i * P.cellsOf e)) → CRel (ctx0 w) rows.flatten a.block o := by
            intro rows
            induction rows with
            | nil => intro o _ _; unfold CRel; trivial
            | cons r rs ihr =>
              intro o h1 h2
              rw [List.flatten_cons]
              refine CRel.append (by simpa using h2 0 r rfl) ?_
              rw [h1 r (by simp)]
              exact ihr _ (fun q hq => h1 q (by simp [hq])) (fun i q hq => by
                have := h2 (i + 1) q (by simpa using hq)
                rw [show o + P.cellsOf e + i * P.cellsOf e = o + (i + 1) * P.cellsOf e by rw [Nat.add_mul]; omega]
                exact this)
          have hall := key (rowsD (elems.map (·.1))) a.off hes (fun i r hr => by
            rw [hget] at hr
            obtain ⟨y, hy, rfl⟩ := Option.map_eq_some_iff.1 hr
            exact (hrow i y hy).2.2)
          exact hall.get k v hv
    · rename_i fs hu
      simp only [Bool.and_eq_true, List.all_eq_true, List.contains_iff_mem, beq_iff_eq] at hc
      obtain ⟨hc1, hc2⟩ := hc
      obtain ⟨xs, n, hn, rfl, hl, hxl, hat⟩ := DataW.trod_struct hu h
      cases hn
      have hsub : ∀ (i : Nat) (f : Field), fs.toList[i]? = some f → ∃ x, xs[i]? = some x ∧ (LRel (ctx0 w) (cellsD x.1) ((cs.drop f.offset).take (P.cellsOf f.type)) ∧ ((cs.drop f.offset).take (P.cellsOf f.type)).length = P.cellsOf f.type ∧ ((cs.drop f.offset).take (P.cellsOf f.type)).all plainB = true) := by
        intro i f hf
        have h1 := hat i f (by simpa using hf)
        have hi : i < xs.length := by rw [hxl]; have := (List.getElem?_eq_some_iff.1 hf).1; simpa using this
        have h2 : xs[i]? = some xs[i] := List.getElem?_eq_getElem hi
        rw [h2] at h1
        exact ⟨xs[i], h2, ih f.type _ _ (hc1 f (List.mem_of_getElem? hf)) h1⟩
      obtain ⟨_, hr⟩ := tiled (w := w) hc2 hl (by simpa using hxl) (fun i f hf => by
        obtain ⟨x, h1, h2, h3, _⟩ := hsub i f hf
        exact ⟨x, h1, h2, h3⟩)
      refine ⟨by simpa [cellsD] using hr, hl, ?_⟩
      -- all cells are plain
      have hp : ∀ (gs : List Field) (o tot : Nat), tiles P o gs = some tot → cs.length = tot → (∀ f ∈ gs, ((cs.drop f.offset).take (P.cellsOf f.type)).all plainB = true) → (cs.drop o).all plainB = true := by
        intro gs
        induction gs with
        | nil => intro o tot h1 h2 _; cases h1; rw [List.drop_of_length_le (by omega)]; rfl
        | cons f gs ihg =>
          intro o tot h1 h2 h3
          simp only [tiles] at h1
          split at h1
          · rename_i ho
            have e1 := h3 f (by simp)
            have e2 := ihg _ _ h1 h2 (fun g hg => h3 g (by simp [hg]))
            rw [← List.take_append_drop (P.cellsOf f.type) (cs.drop o), List.drop_drop, List.all_append, e2, ← ho, e1]; rfl
          · cases h1
      have := hp _ _ _ hc2 hl (fun f hf => by
        obtain ⟨i, hi⟩ := List.getElem?_of_mem hf
        obtain ⟨x, _, _, _, h4⟩ := hsub i f hi
        exact h4)
      simpa using this
    · rename_i n e hu
      simp only [Bool.and_eq_true, List.contains_iff_mem, beq_iff_eq] at hc
      obtain ⟨hc1, hc2⟩ := hc
      obtain ⟨xs, m, hm, rfl, hl, hxl, hat⟩ := DataW.trod_array hu h
      cases hm
      have hsub : ∀ i, i < n → ∃ x, xs[i]? = some x ∧ (LRel (ctx0 w) (cellsD x.1) ((cs.drop (i * P.cellsOf e)).take (P.cellsOf e)) ∧ ((cs.drop (i * P.cellsOf e)).take (P.cellsOf e)).all plainB = true) := by
        intro i hi
        have h1 := hat i hi
        have h2 : xs[i]? = some xs[i] := List.getElem?_eq_getElem (by omega)
        rw [h2] at h1
        obtain ⟨q1, q2, q3⟩ := ih e _ _ hc1 h1
        exact ⟨xs[i], h2, q1, q3⟩
      have hr := arrayed (w := w) (es := P.cellsOf e) (n := n) (o := 0) (cs := cs) (xs := xs) (by rw [hl, hc2]; simp) hxl (fun i hi => by
        obtain ⟨x, h1, h2, _⟩ := hsub i hi
        exact ⟨x, h1, by simpa using h2⟩)
      refine ⟨by simpa [cellsD] using hr, hl, ?_⟩
      have hp : ∀ k o, cs.length = (o + k) * P.cellsOf e → (∀ i, i < k → ((cs.drop ((o + i) * P.cellsOf e)).take (P.cellsOf e)).all plainB = true) → (cs.drop (o * P.cellsOf e)).all plainB = true := by
        intro k
        induction k with
        | zero => intro o h1 _; rw [List.drop_of_length_le (by simpa using Nat.le_of_eq h1)]; rfl
        | succ k ihk =>
          intro o h1 h2
          have e1 := h2 0 (by omega)
          have e2 := ihk (o + 1) (by rw [h1]; congr 1; omega) (fun i hi => by
            have := h2 (i + 1) (by omega)
            rwa [show o + (i + 1) = o + 1 + i by omega] at this)
          rw [← List.take_append_drop (P.cellsOf e) (cs.drop (o * P.cellsOf e)), List.drop_drop, List.all_append]
          rw [show o * P.cellsOf e + P.cellsOf e = (o + 1) * P.cellsOf e by rw [Nat.add_mul]; omega, e2]
          simpa using e1
      have := hp n 0 (by rw [hl, hc2]; simp) (fun i hi => by
        obtain ⟨x, _, _, h4⟩ := hsub i hi
        simpa using h4)
      simpa using this
    · cases hc

/-- A value of one datum: one cell, or an aggregate of cells. -/
def valD {H : Type} (many : Bool) (d : DataW H) : V := if many then .agg (cellsD d) else (cellsD d).headD undefV

def manyT (P : Program) (t : TypeId) : Bool := match P.underlying t with
  | some (.struct _) | some (.array ..) => true
  | _ => false

theorem plainB_C {c : Value} (h : plainB c = true) : plainC c := by cases c <;> first | trivial | cases h

theorem Trod_rel {S : List TypeId} (hS : closedB P S = true) {t : TypeId} (ht : t ∈ S) {v : Value} (hv : (manyT P t = true → ∃ cs, v = .agg cs) ∧ (manyT P t = false → plainC v)) {d : DataW H} {ps : List MemPlace}
    (h : DataW.Trod enc P w 0 spare held t v d ps) : VRel (ctx0 w) (valD (manyT P t) d) v := by
  obtain ⟨fuel, h⟩ := h
  obtain ⟨h1, h2, h3⟩ := trod_rel hS fuel t _ _ ht h
  unfold valD
  cases hm : manyT P t with
  | true =>
    obtain ⟨cs, rfl⟩ := hv.1 hm
    simp only [if_true]
    unfold VRel
    exact ⟨cs.toList, by simp, h1, fun x hx => plainB_C (List.all_eq_true.1 h3 x hx)⟩
  | false =>
    have hp := hv.2 hm
    have : v.cells = #[v] := by cases v <;> first | rfl | exact hp.elim
    rw [this] at h1
    simp only [Bool.false_eq_true, if_false]
    cases hc : cellsD d with
    | nil => rw [hc] at h1; have := LRel.nil_iff.1 h1; simp at this
    | cons x r =>
      rw [hc] at h1
      exact (LRel.cons_iff.1 h1).1

/-! ### the listed variables -/
def globsOf (l : List (Nat × List V)) : Nat → Option (List V) := fun g => l.lookup g

theorem laid_glob {P : Program} {W : World} {S : List TypeId} (hS : closedB P S = true) : ∀ {laid : List (String × DataW Unit)} {ps : List MemPlace}, DataW.LaidVars P W laid ps →
    (∀ x ∈ laid, ∀ g t, P.globalNamed x.1 = some g → (P.globals[g]?).map (·.type) = some t → t ∈ S) → ∀ x ∈ laid, ∀ g, P.globalNamed x.1 = some g → VRel (ctx0 W) (.fp (cellsD x.2) 0) (.pointer (some ⟨g, 0, none⟩))
  | [], _, _, _, x, hx, _, _ => by cases hx
  | (n, d) :: r, ps, h, hT, x, hx, g, hg => by
    obtain ⟨g', t, cs, fuel, p, q, h1, h2, h3, h4, h5, h6⟩ := h
    rcases List.mem_cons.1 hx with rfl | hx
    · rw [hg] at h1
      cases h1
      obtain ⟨k1, k2, k3⟩ := trod_rel hS fuel t _ _ (hT _ (by simp) g t hg h2) h4
      unfold VRel
      refine ⟨g, 0, by simp, CRel.mk fun i v hv => ?_⟩
      obtain ⟨c, hc, hcv⟩ := k1.get i v hv
      unfold World.var? at h3
      rw [hg] at h3
      simp only [Option.bind_some] at h3
      split at h3
      · rename_i cs' el fr hb
        cases h3
        have hlt : g < W.heap.size := (Array.getElem?_eq_some_iff.1 hb).1
        refine ⟨hlt, c, ?_, plainB_C (List.all_eq_true.1 k3 c (List.mem_of_getElem? hc)), hcv⟩
        show W.cell? _ = _
        unfold World.cell?
        rw [hb]
        simpa using hc
      · cases h3
    · exact laid_glob hS h5 (fun y hy => hT y (by simp [hy])) x hx g hg

theorem St0 {E : Env} (W : World) : St E (ctx0 W) [] :=
  ⟨fun i o h => by simp at h, fun _ _ => rfl, fun i j e e' h => by simp [ctx0] at h, fun i e h => by simp [ctx0] at h, fun b h => h, fun i e o h => by simp [ctx0] at h⟩

/-- What the evaluator tells of a call, the machine does; and nothing that lay there turns. -/
theorem ev_calls {E : Env} {T : Tab} (hT : TabOk E T) (hgf : GlobFree E) (hmix : E.P.follows .mixedOrders = true) {n : Nat} {f : FuncId} {args : List V} {cargs : Array Value} {W : World} {v : V} {H' : Heap}
    (hv : callN T n (.f f) args [] 0 = some (.ok v, H')) (hg : Glob E (ctx0 W)) (ha : LRel (ctx0 W) args cargs.toList) {fn : Func} (hfn : E.P.funcs[f]? = some fn) (hbody : fn.body.isSome = true) (hname : fn.name ≠ "runtime.NumGoroutine") :
    Calls E.P f cargs W fun e W' => ∃ c Y, e = .returned c ∧ Y.w = W' ∧ VRel Y v c ∧ RowKit.Below W.heap.size W W' := by
  have h := callN_ok hT hgf hmix n (.f f) args [] 0 _ H' hv (ctx0 W) cargs.toList (St0 W) hg (Nat.zero_le _) ha
  rcases h with ⟨_, c, Y, v', _, h2, _⟩ | ⟨_, h2⟩
  · exfalso
    have : (callFunc f cargs.toList.toArray).run E.P (ctx0 W).w = .ok (.enter f cargs.toList.toArray) (ctx0 W).w := by
      obtain ⟨b, hb⟩ := Option.isSome_iff_exists.1 hbody
      simp [callFunc, hfn, hname, hb]
    rw [this] at h2
    cases h2
  · have := callsIn_wide.1 (h2 0)
    simp only [Array.toArray_toList] at this
    refine this.mono fun e W' hp => ?_
    cases e with
    | returned c =>
      obtain ⟨Y, v', e1, e2, _, hx, hvr⟩ := hp
      cases e1
      refine ⟨c, Y, rfl, e2, hvr, ?_⟩
      obtain ⟨i1, i2, i3⟩ := hx.io
      rw [← e2]
      exact ⟨i1, i3, i2, hx.size, fun k hk => hx.other k hk fun i e _ he => by simp [ctx0] at he⟩
    | panicked ch =>
      obtain ⟨_, _, _, e1, _⟩ := hp
      cases e1
    | outgrown => exact hp.elim

end Go.Ev
/- The table of a program's functions, as the evaluator takes them. -/
namespace Go.Ev
open Go

def okFn (E : Env) (f : FuncId) (fn : Func) : Bool :=
  fn.name != "runtime.NumGoroutine" && (fn.body.isSome || (Extern.findNext fn).isNone) && fn.name != "internal/bytealg.IndexString" && (!E.quiet f || fn.body.isSome)

def tabOf (E : Env) : Tab := fun f => match E.P.funcs[f]? with
  | some fn => if okFn E f fn then lowF E f fn else none
  | none => none

theorem tabOf_ok (E : Env) : TabOk E (tabOf E) := by
  intro f x h
  unfold tabOf at h
  split at h
  · rename_i fn hf
    split at h
    · rename_i hok
      unfold okFn at hok
      simp only [Bool.and_eq_true, bne_iff_ne, Bool.or_eq_true, Bool.not_eq_true', Option.isNone_iff_eq_none] at hok
      obtain ⟨⟨⟨h1, h2⟩, h3⟩, h4⟩ := hok
      refine ⟨fn, hf, h1, fun hb => ?_, fun hn => absurd hn h3, fun hq hb => ?_, h⟩
      · rcases h2 with h2 | h2
        · rw [hb] at h2; cases h2
        · exact h2
      · rcases h4 with h4 | h4
        · rw [hq] at h4; cases h4
        · rw [hb] at h4; cases h4
    · cases h
  · cases h

end Go.Ev
