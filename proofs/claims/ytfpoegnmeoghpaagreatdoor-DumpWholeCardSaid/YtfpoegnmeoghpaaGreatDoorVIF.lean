/- The operations that read only: what they do in the machine. -/
import Derived.Test.YtfpoegnmeoghpaaGreatDoorVIE
import Derived.Laws.Small
import Derived.Laws.Strings
set_option linter.unusedVariables false
set_option linter.unusedSimpArgs false
namespace Go.VI
set_option linter.unusedSectionVars false
variable [Globs] [Rounds]
def okScal : AV → Value → Bool
 | .bool b,.bool b' => b == b'
 | .int k n,.int k' n' => k == k' && n == n'
 | .str l,.string s => l == s.data.toList
 | .nilSl,.slice none 0 0 => true
 | .nilPtr,.pointer none => true
 | .nilFn,.nilFunc => true
 | .nilIf,.nilIface => true
 | _,_ => false
def okCells : List AV → List Value → Bool
 | [],[] => true
 | a :: as,v :: vs => okScal a v && okCells as vs
 | _,_ => false
def okConst : AV → Value → Bool
 | .agg cs,.agg vs => okCells cs vs.toList
 | a,v => okScal a v
def okOpd : Operand → Opd → Bool
 | .tmp t,.t t' => t == t'
 | .const v,.c a => okConst a v
 | .func f,.c (.fn f' []) => f == f' && decide (f < 1000)
 | .global g,.c (.cptr cs) => Globs.glob g cs
 | _,_ => false
def okOpds : List Operand → List Opd → Bool
 | [],[] => true
 | o :: os,x :: xs => okOpd o x && okOpds os xs
 | _,_ => false
def okOpt : Option Operand → Option Opd → Bool
 | none,none => true
 | some o,some x => okOpd o x
 | _,_ => false
section
variable (P : Program)
def isAggT (t : TypeId) : Option Bool :=
 match P.underlying t with
 | some (.struct _) => some true
 | some (.array _ _) => some true
 | some _ => some false
 | none => none
def szT (t : TypeId) : Option Nat := (P.info? t).map (·.size)
def okSh (t : TypeId) (sh : Sh) : Bool :=
 match isAggT P t,sh with
 | some true,.agg n => szT P t == some n
 | some false,.one => true
 | _,_ => false
def okZero (t : TypeId) (zero : List AV) : Bool :=
 match (P.info? t).bind (·.zero) with
 | some z => okCells zero z.cells.toList
 | none => false
end
section
variable {w : World} {X : Nat → Prop} {m : Map} {h : Heap} {P : Program}
theorem okScal_RC {a : AV} {v : Value} (hk : okScal a v = true) : RC w X a v ∧ v.oneCell' = true ∧ a.cells = [a] ∧ v.cells = #[v] ∧ a.val = true := by
 unfold okScal at hk
 split at hk <;> simp_all [RC,Value.oneCell',AV.cells,Value.cells,AV.val]
theorem okCells_RCL : ∀ {as : List AV} {vs : List Value},okCells as vs = true → ones vs ∧ RCL w X as vs
 | [],[],_ => ⟨fun _ h => by simp at h,by simp [RCL]⟩
 | a :: as,v :: vs,hk => by
  simp only [okCells,Bool.and_eq_true] at hk
  obtain ⟨h1,h2,_⟩ := okScal_RC (w := w) (X := X) hk.1
  obtain ⟨g1,g2⟩ := okCells_RCL hk.2
  refine ⟨fun u hu => ?_,by simp only [RCL]; exact ⟨v,vs,rfl,h1,g2⟩⟩
  rcases List.mem_cons.mp hu with rfl | hu
  ·exact h2
  ·exact g1 u hu
 | [],_ :: _,hk => by simp [okCells] at hk
 | _ :: _,[],hk => by simp [okCells] at hk
theorem okConst_RC {a : AV} {v : Value} (hk : okConst a v = true) : RC w X a v := by
 unfold okConst at hk
 split at hk
 ·rename_i cs vs
  obtain ⟨h1,h2⟩ := okCells_RCL (w := w) (X := X) hk
  simp only [RC]
  exact ⟨vs.toList,by simp,h1,h2⟩
 ·exact (okScal_RC hk).1
structure Renv (w : World) (m : Map) (h : Heap) (env : Env) (a : Act) : Prop where
 at' : ∀ t,R w (Live m h) m h (env.get t) (a.tmps.getD t undef)
 glob : GlobOk w (Live m h)
theorem okOpd_R {env : Env} {a : Act} (he : Renv w m h env a) {o : Operand} {x : Opd} (hk : okOpd o x = true) : R w (Live m h) m h (x.ev env) (a.eval o) := by
 unfold okOpd at hk
 split at hk
 ·simp only [beq_iff_eq] at hk; subst hk; exact he.at' _
 ·exact R.of_RC _ _ (okConst_RC hk)
 ·simp only [Bool.and_eq_true,beq_iff_eq,decide_eq_true_eq] at hk
  obtain ⟨rfl,hk⟩ := hk
  simp [Opd.ev,Act.eval,R,RL,fnV,hk]
 ·obtain ⟨h1,h2,h3,_⟩ := he.glob _ _ hk
  simp only [Opd.ev,Act.eval,R,RC]
  exact ⟨_,0,rfl,h1,h2,h3⟩
 ·cases hk
theorem okOpds_RL {env : Env} {a : Act} (he : Renv w m h env a) : ∀ {os : List Operand} {xs : List Opd},okOpds os xs = true → RL w (Live m h) m h (evs env xs) (os.map a.eval)
 | [],[],_ => by simp [evs,RL]
 | o :: os,x :: xs,hk => by
  simp only [okOpds,Bool.and_eq_true] at hk
  simp only [evs,List.map_cons,RL]
  exact ⟨_,_,rfl,okOpd_R he hk.1,okOpds_RL he hk.2⟩
 | [],_ :: _,hk => by simp [okOpds] at hk
 | _ :: _,[],hk => by simp [okOpds] at hk
theorem R_int {k : IntKind} {n : Int} {u : Value} : R w X m h (.int k n) u ↔ u = .int k n := by simp [R,RC]
theorem R_bool {b : Bool} {u : Value} : R w X m h (.bool b) u ↔ u = .bool b := by simp [R,RC]
theorem R_str {l : List UInt8} {u : Value} : R w X m h (.str l) u ↔ u = .string ⟨l.toArray⟩ := by simp [R,RC]
def Reads (P : Program) (w : World) (m : Map) (h : Heap) (a : Act) (o : Oper) (v : AV) : Prop :=
 ∃ u,(execOp a.eval o).run P w = .ok (.value u) w ∧ R w (Live m h) m h v u
theorem byteArray_append (a b : List UInt8) : (⟨a.toArray⟩ : ByteArray) ++ ⟨b.toArray⟩ = ⟨(a ++ b).toArray⟩ := by
 apply ByteArray.ext
 simp
theorem binv_ok {op : BinOp} {x y v : AV} {p q : Value} (hx : R w X m h x p) (hy : R w X m h y q) (hv : binv op x y = some v) (t : TypeId) (ox oy : Operand) :
  ∃ u,(eqGuard op t ox oy p q).run P w = .ok () w ∧ (binOp op t p q).run P w = .ok u w ∧ R w X m h v u := by
 unfold binv at hv
 split at hv
 ·rename_i k a k' b
  rw [R_int] at hx hy
  subst hx hy
  have hg : (eqGuard op t ox oy (.int k a) (.int k' b)).run P w = .ok () w := by
   unfold eqGuard; split <;> simp
  cases op <;> simp only [] at hv
  case shl =>
   split at hv <;> simp at hv
   subst hv
   rename_i hb
   refine ⟨_,hg, ?_,R_int.mpr rfl⟩
   simp [binOp,Op.shift,Int.not_lt.mpr hb]
  case shr =>
   split at hv <;> simp at hv
   subst hv
   rename_i hb
   refine ⟨_,hg, ?_,R_int.mpr rfl⟩
   simp [binOp,Op.shift,Int.not_lt.mpr hb]
  all_goals
   split at hv
   ·rename_i hk
    subst hk
    first
    | (simp at hv; done)
    | (simp only [Option.some.injEq] at hv; subst hv; refine ⟨_,hg, ?_,by first | exact R_int.mpr rfl | exact R_bool.mpr rfl⟩; simp [binOp,Op.intArith,Op.intBits,Op.intCmp]; done)
    | (split at hv
       ·simp at hv
       ·rename_i hb
        simp only [Option.some.injEq] at hv; subst hv
        refine ⟨_,hg, ?_,R_int.mpr rfl⟩
        simp [binOp,Op.intDiv,hb])
   ·simp at hv
 ·rename_i a b
  rw [R_str] at hx hy
  subst hx hy
  have hg : (eqGuard op t ox oy (.string ⟨a.toArray⟩) (.string ⟨b.toArray⟩)).run P w = .ok () w := by
   unfold eqGuard; split <;> simp
  cases op <;> simp only [] at hv
  all_goals first
   | (simp at hv; done)
   | (simp only [Option.some.injEq] at hv; subst hv; refine ⟨_,hg, ?_,R_bool.mpr rfl⟩; simp [binOp,Op.stringOp]; done)
   | (split at hv
      ·rename_i hlen
       simp only [Option.some.injEq] at hv; subst hv
       refine ⟨_,hg, ?_,R_str.mpr rfl⟩
       simp [binOp,Op.stringOp,ByteArray.size,byteArray_append,IntKind.max,IntKind.signed,IntKind.bits]
       omega
      ·simp at hv)
 ·cases hv
end
end Go.VI
