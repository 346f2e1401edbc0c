/- Which operation of the machine an operation stands for; the operations that only read. -/
import Derived.Test.YtfpoegnmeoghpaaGreatDoorVIF
import Derived.Test.YtfpoegnmeoghpaaGreatDoorVIEQ
import Derived.Laws.Tables
import Derived.Laws.Slices
import Derived.Laws.Build
import Derived.Laws.Cover3
set_option linter.unusedVariables false
set_option linter.unusedSimpArgs false
namespace Go.VI
set_option linter.unusedSectionVars false
variable [Globs] [Rounds]
section
variable (P : Program)
def sliceElem (t : TypeId) : Option TypeId := match P.underlying t with | some (.slice e) => some e | _ => none
def isStrT (t : TypeId) : Bool := match P.underlying t with | some .string => true | _ => false
def arrOf (t : TypeId) : Option (Nat × TypeId) := match P.underlying t with | some (.array n e) => some (n,e) | _ => none
def intT (t : TypeId) : Option IntKind := match P.underlying t with | some (.int k) => some k | _ => none
def isIfT (t : TypeId) : Bool := match P.underlying t with | some (.interface _) => true | _ => false
def mapKey (t : TypeId) : Option IntKind := match P.underlying t with | some (.map k _) => intT P k | _ => none
def mapZero (t : TypeId) (zero : AV) : Bool := match P.underlying t with
 | some (.map _ e) => match (P.info? e).bind (·.zero) with | some v => okConst zero v | none => false
 | _ => false
def bytesT (t : TypeId) : Bool := match P.underlying t with | some (.slice e) => intT P e == some .u8 && (P.info? e).any (fun i => i.size == 1 && i.bytes == 1) | _ => false
def isBoolT (t : TypeId) : Bool := match P.underlying t with | some .bool => true | _ => false
def placeT (t : TypeId) (i : Nat) : Option (Nat × Nat) :=
 match P.underlying t with
 | some (.array _ e) => (P.info? e).map fun ie => (i * ie.size,ie.size)
 | some (.struct fields) => (fields.toList.mapM fun f => (P.info? f.type).map fun i => (f.offset,i.size)).bind fun l => l[i]?
 | _ => none
def okParts (t : TypeId) : List (Nat × Operand) → List (Nat × Nat × Opd) → Bool
 | [],[] => true
 | (i,o) :: os,(off,n,x) :: xs => placeT P t i == some (off,n) && okOpd o x && okParts t os xs
 | _,_ => false
def okIParts : List (Nat × Operand) → List (Nat × Opd) → Bool
 | [],[] => true
 | (i,o) :: os,(j,x) :: xs => i == j && okOpd o x && okIParts os xs
 | _,_ => false
def builtFields (t : TypeId) : Bool :=
 match P.underlying t with
 | some (.array _ e) => (P.info? e).isSome
 | some (.struct fields) => (fields.toList.mapM fun f => (P.info? f.type).map fun i => (f.offset,i.size)).isSome
 | _ => false
def okElem (t : TypeId) (z lim : Nat) : Bool :=
 match sliceElem P t with
 | some e => match P.info? e with
  | some i => i.size == z && decide (0 < z) && decide (lim * i.bytes ≤ 140737488355328) && decide (lim ≤ 140737488355328)
  | none => false
 | none => false
def elemZero (t : TypeId) (zero : AV) : Bool :=
 match sliceElem P t with
 | some e => match (P.info? e).bind (·.zero) with
  | some v => okConst zero v
  | none => false
 | none => false
def eqT (t : TypeId) (ks : List Kd) : Bool :=
 match P.underlying t with
 | some .bool => ks == []
 | some (.array _ _) | some (.struct _) => ks != [] && confK P 50 t ks && !P.eqGuardType P.depth t
 | _ => false
def okXI (o : Oper) : XI → Bool
 | .mov x => match o.op with | .move y | .assign y => okOpd y x | _ => false
 | .isnil neg x => match o.op with
  | .binOp .eql t x' (.const (.slice none 0 0)) _ => !neg && (sliceElem P t).isSome && okOpd x' x
  | .binOp .neq t x' (.const (.slice none 0 0)) _ => neg && (sliceElem P t).isSome && okOpd x' x
  | _ => false
 | .isnif neg x => match o.op with
  | .binOp .eql t x' (.const .nilIface) _ => !neg && isIfT P t && okOpd x' x
  | .binOp .neq t x' (.const .nilIface) _ => neg && isIfT P t && okOpd x' x
  | _ => false
 | .mkmap _ k => match o.op with | .makeMap t none => mapKey P t == some k | _ => false
 | .mget zero ok x k => match o.op with | .lookup t y j c => c == ok && (mapKey P t).isSome && mapZero P t zero && okOpd y x && okOpd j k | _ => false
 | .mput x k v => match o.op with | .mapUpdate t y j u | .insert t y j u => (mapKey P t).isSome && okOpd y x && okOpd j k && okOpd u v | _ => false
 | .mdel x k => match o.op with
  | .call { callee := .builtin .delete,args := ⟨[y,j]⟩,argTypes := ⟨[t,t2]⟩ } => (mapKey P t).isSome && okOpd y x && okOpd j k
  | _ => false
 | .mkbld _ => match o.op with | .alloc t => t == Globs.bldT && (P.info? t).any (fun i => match i.zero with | some (.agg ⟨[.pointer none,.slice none 0 0]⟩) => true | _ => false) | _ => false
 | .bwr _ f x y => match o.op with
  | .call { callee := .value (.func g),args := ⟨[p,q]⟩,.. } => g == f && Globs.bldF f && okOpd p x && okOpd q y
  | _ => false
 | .bstr f x => match o.op with
  | .call { callee := .value (.func g),args := ⟨[p]⟩,.. } => g == f && Globs.bstF f && okOpd p x
  | _ => false
 | .toStr x => match o.op with | .convert s d y => isStrT P d && bytesT P s && okOpd y x | _ => false
 | .mkif t x => match o.op with | .makeInterface t' y => t' == t && !isIfT P t && (P.underlying t).isSome && okOpd y x | _ => false
 | .nchk x => match o.op with | .nilCheck y => okOpd y x | _ => false
 | .pick c a b => match o.op with | .pick c' a' b' => okOpd c' c && okOpd a' a && okOpd b' b | _ => false
 | .bin op x y => match o.op with | .binOp op' _ x' y' _ => decide (op' = op) && okOpd x' x && okOpd y' y | _ => false
 | .un op x => match o.op with | .unOp op' _ x' => decide (op' = op) && okOpd x' x | _ => false
 | .conv k x => match o.op with | .convert src dst x' => (P.underlying src).isSome && intT P dst == some k && okOpd x' x | _ => false
 | .eqv neg ks x y => match o.op with
  | .binOp .eql t x' y' _ => !neg && eqT P t ks && okOpd x' x && okOpd y' y
  | .binOp .neq t x' y' _ => neg && eqT P t ks && okOpd x' x && okOpd y' y
  | _ => false
 | .len s x => match o.op with
  | .call { callee := .builtin .len,args := ⟨[y]⟩,argTypes := ⟨[t]⟩ } => (if s then isStrT P t else (sliceElem P t).isSome) && okOpd y x
  | _ => false
 | .lenA n x => match o.op with
  | .call { callee := .builtin .len,args := ⟨[_]⟩,argTypes := ⟨[t]⟩ } => match P.underlying t with
   | some (.array k _) => k == n
   | some (.pointer a) => match P.underlying a with | some (.array k _) => k == n | _ => false
   | _ => false
  | _ => false
 | .minmax mx xs => match o.op with
  | .call { callee := .builtin .max,args,.. } => mx && okOpds args.toList xs
  | .call { callee := .builtin .min,args,.. } => !mx && okOpds args.toList xs
  | _ => false
 | .ext x i => match o.op with | .extract y j => i == j && okOpd y x | _ => false
 | .build zero parts => match o.op with | .build t ps => okZero P t zero && builtFields P t && okParts P t ps.toList parts | _ => false
 | .bslice z zero n parts => match o.op with
  | .buildSlice t k ps => k == n && okElem P t z n && decide (n * z ≤ 16777216) && elemZero P t zero && decide (zero.cells.length = z) && okIParts ps.toList parts
  | _ => false
 | .padd x k => match o.op with
  | .fieldAddr s y f => match P.underlying s with
   | some (.struct fields) => match fields[f]? with
    | some fd => fd.offset == k && (match szT P fd.type with | some n => decide (n ≠ 0) | none => false) && okOpd y x
    | none => false
   | _ => false
  | _ => false
 | .ixA n size x i => match o.op with
  | .indexAddr t y j => match arrOf P t with
   | some (n',e) => n' == n && szT P e == some size && okOpd y x && okOpd j i
   | none => false
  | _ => false
 | .ixS z x i => match o.op with
  | .indexAddr t y j => (match sliceElem P t with | some e => szT P e == some z | none => false) && okOpd y x && okOpd j i
  | _ => false
 | .fld x off sh => match o.op with
  | .field t y f => match P.underlying t with
   | some (.struct fields) => match fields[f]? with
    | some fd => fd.offset == off && okSh P fd.type sh && okOpd y x
    | none => false
   | _ => false
  | _ => false
 | .ixV n size sh x i => match o.op with
  | .index t y j => match arrOf P t with
   | some (n',e) => n' == n && szT P e == some size && okSh P e sh && okOpd y x && okOpd j i
   | none => false
  | _ => false
 | .ixStr x i => match o.op with
  | .index t y j => isStrT P t && okOpd y x && okOpd j i
  | _ => false
 | .slice z x lo hi => match o.op with
  | .slice t y lo' hi' none => (match z with
   | none => isStrT P t
   | some z => match sliceElem P t with | some e => szT P e == some z | none => false) && okOpd y x && okOpt lo' lo && okOpt hi' hi
  | _ => false
 | .load sh x => match o.op with | .load t y => okSh P t sh && okOpd y x | _ => false
 | .store sz x v => match o.op with | .store t y u => szT P t == some sz && okOpd y x && okOpd u v | _ => false
 | .alloc _ zero => match o.op with | .alloc t => okZero P t zero | _ => false
 | .box _ x => match o.op with | .box _ y => okOpd y x | _ => false
 | .boxR x => match o.op with | .box _ y => okOpd y x | _ => false
 | .mk _ z zero lim n c => match o.op with
  | .makeSlice t l k => okElem P t z lim && elemZero P t zero && decide (zero.cells.length = z) && okOpd l n && okOpd k c
  | _ => false
 | .app _ z lim x y => match o.op with
  | .call { callee := .builtin .append,args := ⟨[a,b]⟩,argTypes := ⟨[t,u]⟩ } =>
   okElem P t z lim && (match sliceElem P t with | some e => (P.info? e).any (fun i => i.zero.any fun v => v.cells.size == z) | none => false) && ((sliceElem P u).isSome || isStrT P u) && okOpd a x && okOpd b y
  | _ => false
 | .mkfn f caps => match o.op with
  | .makeFunc (.func g) ⟨[]⟩ cs => f == g && decide (g < 1000) && okOpds cs.toList caps
  | .makeFunc (.func g) fs ⟨[]⟩ => f == g + 1000 && okOpds fs.toList caps
  | _ => false
 | .copy z x y => match o.op with
  | .call { callee := .builtin .copy,args := ⟨[a,b]⟩,argTypes := ⟨[t,_]⟩ } =>
   (match sliceElem P t with | some e => (P.info? e).any (fun i => i.size == z && decide (0 < z)) | none => false) && okOpd a x && okOpd b y
  | _ => false
 | .call f args _ => match o.op with
  | .call { callee := .value g,args := as,.. } => okOpd g f && okOpds as.toList args
  | _ => false
 | .apz _ z zero lim x y => match o.op with
  | .call { callee := .builtin .append,args := ⟨[a,b]⟩,argTypes := ⟨[t,u]⟩ } =>
   okElem P t z lim && elemZero P t zero && decide (zero.cells.length = z) && (match P.underlying u with | some (.int _) => true | _ => false) && okOpd a x && okOpd b y
  | _ => false
 | .pnc x => match o.op with
  | .panic a => okOpd a x
  | _ => false
 | .clr z zero x => match o.op with
  | .call { callee := .builtin .clear,args := ⟨[a]⟩,argTypes := ⟨[t]⟩ } =>
   (match sliceElem P t with | some e => (P.info? e).any (fun i => i.size == z && decide (0 < z)) | none => false) && elemZero P t zero && decide (zero.cells.length = z) && okOpd a x
  | _ => false
end
section
variable {w : World} {m : Map} {h : Heap} {P : Program} {env : Env} {a : Act} {o : Oper}
theorem szT_run {t : TypeId} {n : Nat} (hs : szT P t = some n) : (sizeOf t).run P w = .ok n w := by
 unfold szT at hs
 obtain ⟨i,hi,rfl⟩ := mE.mp hs
 simp [sizeOf,typeInfo,hi]
theorem isAggT_run {t : TypeId} {b : Bool} (hs : isAggT P t = some b) : (isAgg t).run P w = .ok b w := by
 unfold isAggT at hs
 split at hs <;> simp_all [isAgg,underlying]
theorem sliceElem_run {t e : TypeId} (hs : sliceElem P t = some e) : P.underlying t = some (.slice e) := by
 unfold sliceElem at hs
 split at hs <;> simp_all
theorem isStrT_run {t : TypeId} (hs : isStrT P t = true) : P.underlying t = some .string := by
 unfold isStrT at hs
 split at hs <;> simp_all
theorem arrOf_run {t e : TypeId} {n : Nat} (hs : arrOf P t = some (n,e)) : P.underlying t = some (.array n e) := by
 unfold arrOf at hs
 split at hs <;> simp_all
theorem intT_run {t : TypeId} {k : IntKind} (hs : intT P t = some k) : P.underlying t = some (.int k) := by
 unfold intT at hs
 split at hs <;> simp_all
theorem isBoolT_run {t : TypeId} (hs : isBoolT P t = true) : P.underlying t = some .bool := by
 unfold isBoolT at hs
 split at hs <;> simp_all
theorem toBool_R {x : AV} {u : Value} {b : Bool} {X : Nat → Prop} (hr : R w X m h x u) (hb : toBool x = some b) : u = .bool b := by
 cases x <;> simp_all [toBool,R,RC]
theorem mov_ok (he : Renv w m h env a) {x : Opd} (hk : okXI P o (.mov x) = true) : Reads P w m h a o (x.ev env) := by
 simp only [okXI] at hk
 split at hk
 ·rename_i y hop; exact ⟨a.eval y,by simp [execOp,hop],okOpd_R he hk⟩
 ·rename_i y hop; exact ⟨a.eval y,by simp [execOp,hop],okOpd_R he hk⟩
 ·cases hk
theorem isnil_R {w : World} {X : Nat → Prop} {m : Map} {h : Heap} {neg : Bool} {x v : AV} {u : Value} (hr : R w X m h x u) (hv : isnilv neg x = some v) : ∃ a l c,u = .slice a l c ∧ v = .bool (if neg then !a.isNone else a.isNone) := by
 unfold isnilv at hv
 split at hv
 ·simp only [R,RC] at hr
  simp only [Option.some.injEq] at hv
  exact ⟨none,0,0,hr,by rw [← hv]; cases neg <;> rfl⟩
 ·simp only [R,RC] at hr
  obtain ⟨a,cap,e,_,h3⟩ := hr
  rcases h3 with h3 | ⟨b,o,rfl,_⟩
  ·cases h3
  ·simp only [Option.some.injEq] at hv
   exact ⟨_,_,_,e,by rw [← hv]; cases neg <;> rfl⟩
 ·simp only [R,RC] at hr
  obtain ⟨a,e,h3⟩ := hr
  rcases h3 with h3 | ⟨b,o,rfl,_⟩
  ·cases h3
  ·simp only [Option.some.injEq] at hv
   exact ⟨_,_,_,e,by rw [← hv]; cases neg <;> rfl⟩
 ·simp only [R] at hr
  obtain ⟨a,cap,e,h1,h2,_⟩ := hr
  cases a with
  | none => have := h2 rfl; omega
  | some a =>
   simp only [Option.some.injEq] at hv
   exact ⟨_,_,_,e,by rw [← hv]; cases neg <;> rfl⟩
 ·cases hv
theorem isnil_ok (he : Renv w m h env a) {neg : Bool} {x : Opd} {v : AV} (hk : okXI P o (.isnil neg x) = true) (hv : isnilv neg (x.ev env) = some v) : Reads P w m h a o v := by
 simp only [okXI] at hk
 split at hk
 ·rename_i t x' t2 hop
  simp only [Bool.and_eq_true,Bool.not_eq_true'] at hk
  obtain ⟨⟨rfl,hs⟩,h1⟩ := hk
  obtain ⟨el,hs⟩ := Option.isSome_iff_exists.mp hs
  obtain ⟨ad,l,c,e,rfl⟩ := isnil_R (okOpd_R he h1) hv
  refine ⟨.bool ad.isNone, ?_,R_bool.mpr (by simp)⟩
  have hg : ∀ op,(eqGuard op t x' (.const (.slice none 0 0)) (.slice ad l c) (.slice none 0 0)).run P w = .ok () w := fun op => by cases op <;> simp [eqGuard]
  simp only [execOp,hop,e,show a.eval (.const (.slice none 0 0)) = .slice none 0 0 from rfl,Sem.run_bind,hg,Result.andThen_ok]
  simp [binOp,run_equal_slice_nil w t el ad l c (sliceElem_run hs)]
 ·rename_i t x' t2 hop
  simp only [Bool.and_eq_true] at hk
  obtain ⟨⟨rfl,hs⟩,h1⟩ := hk
  obtain ⟨el,hs⟩ := Option.isSome_iff_exists.mp hs
  obtain ⟨ad,l,c,e,rfl⟩ := isnil_R (okOpd_R he h1) hv
  refine ⟨.bool (!ad.isNone), ?_,R_bool.mpr (by simp)⟩
  have hg : ∀ op,(eqGuard op t x' (.const (.slice none 0 0)) (.slice ad l c) (.slice none 0 0)).run P w = .ok () w := fun op => by cases op <;> simp [eqGuard]
  simp only [execOp,hop,e,show a.eval (.const (.slice none 0 0)) = .slice none 0 0 from rfl,Sem.run_bind,hg,Result.andThen_ok]
  simp [binOp,run_equal_slice_nil w t el ad l c (sliceElem_run hs)]
 ·cases hk
theorem nchk_ok (he : Renv w m h env a) {x : Opd} {v : AV} (hk : okXI P o (.nchk x) = true) (hv : nchkv (x.ev env) = some v) : Reads P w m h a o v := by
 simp only [okXI] at hk
 split at hk
 ·rename_i y hop
  have hr := okOpd_R he hk
  have hv' : v = x.ev env := by
   unfold nchkv at hv
   split at hv <;> simp_all
  refine ⟨a.eval y, ?_,by rw [hv']; exact hr⟩
  unfold nchkv at hv
  split at hv
  ·rename_i e; rw [e] at hr; simp only [R,RC] at hr; obtain ⟨b,o',e',_⟩ := hr; simp [execOp,hop,e']
  ·rename_i e; rw [e] at hr; simp only [R] at hr; obtain ⟨b,e',_⟩ := hr; simp [execOp,hop,e']
  ·rename_i q i off e
   rw [e] at hr
   cases q <;> first | (simp [R] at hr; done) | (simp only [R] at hr; obtain ⟨b,o',e',_⟩ := hr; simp [execOp,hop,e']; done) | (simp only [R] at hr; obtain ⟨b,e',_⟩ := hr; simp [execOp,hop,e'])
  ·rename_i e; rw [e] at hr; simp only [R] at hr; obtain ⟨b,e',_⟩ := hr; unfold fnV at e'; split at e' <;> simp [execOp,hop,e',fnV, *]
  ·cases hv
 ·cases hk
theorem pick_ok (he : Renv w m h env a) {c x y : Opd} {r : Bool} (hk : okXI P o (.pick c x y) = true) (hv : toBool (c.ev env) = some r) : Reads P w m h a o (if r then x.ev env else y.ev env) := by
 simp only [okXI] at hk
 split at hk
 ·rename_i c' x' y' hop
  simp only [Bool.and_eq_true] at hk
  have hc := toBool_R (okOpd_R he hk.1.1) hv
  refine ⟨if r then a.eval x' else a.eval y', ?_, ?_⟩
  ·simp [execOp,hop,hc,asBool]
  ·cases r
   ·exact okOpd_R he hk.2
   ·exact okOpd_R he hk.1.2
 ·cases hk
theorem bin_ok (he : Renv w m h env a) {op : BinOp} {x y : Opd} {v : AV} (hk : okXI P o (.bin op x y) = true) (hv : binv op (x.ev env) (y.ev env) = some v) : Reads P w m h a o v := by
 simp only [okXI] at hk
 split at hk
 ·rename_i op' t x' y' t2 hop
  simp only [Bool.and_eq_true,decide_eq_true_eq] at hk
  obtain ⟨⟨rfl,h1⟩,h2⟩ := hk
  obtain ⟨u,g1,g2,g3⟩ := binv_ok (P := P) (okOpd_R he h1) (okOpd_R he h2) hv t x' y'
  exact ⟨u,by simp [execOp,hop,g1,g2],g3⟩
 ·cases hk
theorem un_ok (he : Renv w m h env a) {op : UnOp} {x : Opd} {v : AV} (hk : okXI P o (.un op x) = true) (hv : unv op (x.ev env) = some v) : Reads P w m h a o v := by
 simp only [okXI] at hk
 split at hk
 ·rename_i op' t x' hop
  simp only [Bool.and_eq_true,decide_eq_true_eq] at hk
  obtain ⟨rfl,h1⟩ := hk
  have hr := okOpd_R he h1
  unfold unv at hv
  split at hv
  ·rename_i k n e
   rw [e,R_int] at hr
   cases op' <;> simp at hv
   subst hv
   exact ⟨_,by simp [execOp,hop,hr,Op.unary,Op.intArith]; rfl,R_int.mpr (by simp)⟩
  ·rename_i b e
   rw [e,R_bool] at hr
   cases op' <;> simp at hv
   subst hv
   exact ⟨_,by simp [execOp,hop,hr,Op.unary],R_bool.mpr rfl⟩
  ·cases hv
 ·cases hk
theorem conv_ok (he : Renv w m h env a) {k : IntKind} {x : Opd} {v : AV} (hk : okXI P o (.conv k x) = true) (hv : convv k (x.ev env) = some v) : Reads P w m h a o v := by
 simp only [okXI] at hk
 split at hk
 ·rename_i src dst x' hop
  simp only [Bool.and_eq_true,beq_iff_eq] at hk
  obtain ⟨⟨h0,h1⟩,h2⟩ := hk
  have hr := okOpd_R he h2
  have hd := intT_run h1
  obtain ⟨d,hs⟩ := Option.isSome_iff_exists.mp h0
  unfold convv at hv
  split at hv
  ·rename_i k' n e
   rw [e,R_int] at hr
   simp only [Option.some.injEq] at hv
   subst hv
   refine ⟨.int k (k.wrap n), ?_,R_int.mpr rfl⟩
   cases d <;> simp [execOp,hop,hr,convert,underlying,hs,hd,Conv.intToInt]
  ·cases hv
 ·cases hk
theorem RL_fv {w : World} {X : Nat → Prop} {m : Map} {h : Heap} : ∀ {ks : List Kd} {as : List AV} {vs : List Value},okKs ks as = true → RL w X m h as vs → vs = as.map AV.fv
 | [],[],vs,_,hr => by simpa [RL] using hr
 | k :: ks,a :: as,vs,hk,hr => by
  simp only [okKs,Bool.and_eq_true,beq_iff_eq] at hk
  simp only [RL] at hr
  obtain ⟨u,us,rfl,h1,h2⟩ := hr
  rw [RL_fv hk.2 h2,List.map_cons]
  congr 1
  cases k with
  | b => obtain ⟨b,rfl⟩ := kd_b hk.1; simpa [R,RC,AV.fv] using h1
  | i q => obtain ⟨n,rfl⟩ := kd_i hk.1; simpa [R,RC,AV.fv] using h1
  | s => obtain ⟨l,rfl⟩ := kd_s hk.1; simpa [R,RC,AV.fv] using h1
 | [],_ :: _,_,h,_ => by simp [okKs] at h
 | _ :: _,[],_,h,_ => by simp [okKs] at h
theorem run_eq_agg {P : Program} (w : World) {t : TypeId} {ks : List Kd} {as bs : List AV} (hc : confK P 50 t ks = true) (hu : (match P.underlying t with | some (.array _ _) | some (.struct _) => true | _ => false) = true) (ha : okKs ks as = true) (hb : okKs ks bs = true) :
  (Op.equalIn 10000 t (.agg (as.map AV.fv).toArray) (.agg (bs.map AV.fv).toArray)).run P w = .ok (eqL as bs) w := by
 have := run_equalIn_k (P := P) 9950 50 t w ks as bs hc ha hb
 unfold mkV at this
 split at this
 ·exact this
 ·exact this
 ·split at hu <;> simp_all
theorem eqv_ok (he : Renv w m h env a) {neg : Bool} {ks : List Kd} {x y : Opd} {v : AV} (hk : okXI P o (.eqv neg ks x y) = true) (hv : eqvv neg ks (x.ev env) (y.ev env) = some v) : Reads P w m h a o v := by
 simp only [okXI] at hk
 have key : ∀ {t : TypeId} {x' y' : Operand},eqT P t ks = true → okOpd x' x = true → okOpd y' y = true → ∃ r : Bool,v = .bool (if neg then !r else r) ∧
   (∀ op,(eqGuard op t x' y' (a.eval x') (a.eval y')).run P w = .ok () w) ∧ (binOp .eql t (a.eval x') (a.eval y')).run P w = .ok (.bool r) w ∧ (binOp .neq t (a.eval x') (a.eval y')).run P w = .ok (.bool (!r)) w := by
  intro t x' y' ht h1 h2
  have hr1 := okOpd_R he h1
  have hr2 := okOpd_R he h2
  unfold eqvv at hv
  split at hv
  ·rename_i p q e1 e2
   split at hv
   ·rename_i hks
    subst hks
    rw [e1,R_bool] at hr1
    rw [e2,R_bool] at hr2
    simp only [Option.some.injEq] at hv
    have hb : isBoolT P t = true := by
     unfold eqT at ht
     split at ht
     ·rename_i hu; simp [isBoolT,hu]
     ·simp at ht
     ·simp at ht
     ·cases ht
    rw [hr1,hr2]
    refine ⟨p == q,hv.symm,fun op => ?_,run_eql_bool w t p q (isBoolT_run hb),run_neq_bool w t p q (isBoolT_run hb)⟩
    unfold eqGuard
    simp
   ·cases hv
  ·rename_i as bs e1 e2
   rw [e1] at hr1
   rw [e2] at hr2
   simp only [R] at hr1 hr2
   obtain ⟨us,e3,_,r1⟩ := hr1
   obtain ⟨vs,e4,_,r2⟩ := hr2
   split at hv
   ·rename_i hkk
    obtain ⟨hne,hkk⟩ := hkk
    simp only [Bool.and_eq_true] at hkk
    rw [RL_fv hkk.1 r1] at e3
    rw [RL_fv hkk.2 r2] at e4
    simp only [Option.some.injEq] at hv
    have hc : confK P 50 t ks = true ∧ P.eqGuardType P.depth t = false ∧ (match P.underlying t with | some (.array _ _) | some (.struct _) => true | _ => false) = true := by
     unfold eqT at ht
     split at ht
     ·simp only [beq_iff_eq] at ht; exact absurd ht hne
     ·rename_i hu; simp only [Bool.and_eq_true,Bool.not_eq_true'] at ht; exact ⟨ht.1.2,ht.2,by rw [hu]⟩
     ·rename_i hu; simp only [Bool.and_eq_true,Bool.not_eq_true'] at ht; exact ⟨ht.1.2,ht.2,by rw [hu]⟩
     ·cases ht
    have hrun := run_eq_agg w hc.1 hc.2.2 hkk.1 hkk.2
    rw [e3,e4]
    refine ⟨eqL as bs,hv.symm,fun op => run_eqGuard_agg w op t x' y' _ _ hc.2.1, ?_, ?_⟩
    ·rw [run_eql_struct,hrun]; rfl
    ·rw [run_neq_struct,hrun]; rfl
   ·cases hv
  ·cases hv
 split at hk
 ·rename_i t x' y' t2 hop
  simp only [Bool.and_eq_true,Bool.not_eq_true'] at hk
  obtain ⟨⟨⟨rfl,ht⟩,h1⟩,h2⟩ := hk
  obtain ⟨r,rfl,hg,e1,e2⟩ := key ht h1 h2
  refine ⟨.bool r, ?_,R_bool.mpr (by simp)⟩
  simp only [execOp,hop,Sem.run_bind,hg,Result.andThen_ok,e1,Sem.run_pure]
 ·rename_i t x' y' t2 hop
  simp only [Bool.and_eq_true] at hk
  obtain ⟨⟨⟨rfl,ht⟩,h1⟩,h2⟩ := hk
  obtain ⟨r,rfl,hg,e1,e2⟩ := key ht h1 h2
  refine ⟨.bool (!r), ?_,R_bool.mpr (by simp)⟩
  simp only [execOp,hop,Sem.run_bind,hg,Result.andThen_ok,e2,Sem.run_pure]
 ·cases hk
theorem len_ok (he : Renv w m h env a) {s : Bool} {x : Opd} {v : AV} (hk : okXI P o (.len s x) = true) (hv : lenv s (x.ev env) = some v) : Reads P w m h a o v := by
 simp only [okXI] at hk
 split at hk
 ·rename_i y t hop
  simp only [Bool.and_eq_true] at hk
  obtain ⟨h0,h1⟩ := hk
  have hr := okOpd_R he h1
  cases s with
  | true =>
   simp only [if_true] at h0
   have ht := isStrT_run h0
   simp only [lenv,if_true] at hv
   split at hv
   ·rename_i l e
    simp only [Option.some.injEq] at hv
    subst hv
    rw [e,R_str] at hr
    exact ⟨_,by simp [execOp,hop,resolve,invoke,builtin,hr,Builtin.len_,underlying,ht,goInt]; rfl,R_int.mpr (by simp [ByteArray.size])⟩
   ·cases hv
  | false =>
   simp only [Bool.false_eq_true,if_false] at h0
   obtain ⟨e,hse⟩ := Option.isSome_iff_exists.mp h0
   have ht := sliceElem_run hse
   simp only [lenv,Bool.false_eq_true,if_false,mE] at hv
   obtain ⟨n,hn,rfl⟩ := hv
   obtain ⟨ad,cap,e',_⟩ := slen_mem hr hn
   exact ⟨_,by simp [execOp,hop,resolve,invoke,builtin,e',Builtin.len_,underlying,ht,goInt],R_int.mpr rfl⟩
 ·cases hk
theorem lenA_ok {n : Nat} {x : Opd} (hk : okXI P o (.lenA n x) = true) : Reads P w m h a o (.int .i64 n) := by
 simp only [okXI] at hk
 split at hk
 ·rename_i y t hop
  split at hk
  ·rename_i k e ht
   simp only [beq_iff_eq] at hk
   subst hk
   exact ⟨_,by simp [execOp,hop,resolve,invoke,builtin,Builtin.len_,underlying,ht,goInt],R_int.mpr rfl⟩
  ·rename_i q ht
   split at hk
   ·rename_i k e ht'
    simp only [beq_iff_eq] at hk
    subst hk
    exact ⟨_,by simp [execOp,hop,resolve,invoke,builtin,Builtin.len_,underlying,ht,ht',goInt],R_int.mpr rfl⟩
   ·cases hk
  ·cases hk
 ·cases hk
theorem mm2_ok {mx : Bool} {x y v : AV} {p q : Value} {X : Nat → Prop} (hx : R w X m h x p) (hy : R w X m h y q) (hv : mm2 mx x y = some v) :
  ∃ u,((if mx then Builtin.max2 p q else Builtin.min2 p q) : Sem Value).run P w = .ok u w ∧ R w X m h v u := by
 unfold mm2 at hv
 split at hv
 ·rename_i k x k' y
  rw [R_int] at hx hy
  subst hx hy
  simp only [Option.some.injEq] at hv
  subst hv
  cases mx
  ·exact ⟨_,by simp [Builtin.min2]; rfl,R_int.mpr (by simp)⟩
  ·exact ⟨_,by simp [Builtin.max2]; rfl,R_int.mpr (by simp)⟩
 ·cases hv
theorem mmv_ok {mx : Bool} {xs : List AV} {v : AV} {ps : List Value} {X : Nat → Prop} (hx : RL w X m h xs ps) (hv : mmv mx xs = some v) (ts : Array TypeId) (t : TypeId) :
  ∃ u,((if mx then Builtin.max_ ts t ps.toArray else Builtin.min_ ts t ps.toArray) : Sem Value).run P w = .ok u w ∧ R w X m h v u := by
 unfold mmv at hv
 split at hv
 ·cases hv
 ·rename_i x
  simp only [Option.some.injEq] at hv
  subst hv
  simp only [RL] at hx
  obtain ⟨u,us,rfl,h1,rfl⟩ := hx
  cases mx
  ·exact ⟨u,by simp [Builtin.min_],h1⟩
  ·exact ⟨u,by simp [Builtin.max_],h1⟩
 ·rename_i x y
  simp only [RL] at hx
  obtain ⟨u,us,rfl,h1,u2,us2,rfl,h2,rfl⟩ := hx
  obtain ⟨r,hr,hR⟩ := mm2_ok (P := P) h1 h2 hv
  cases mx
  ·exact ⟨r,by simpa [Builtin.min_] using hr,hR⟩
  ·exact ⟨r,by simpa [Builtin.max_] using hr,hR⟩
 ·rename_i x y z
  obtain ⟨q,hq,hv⟩ := bE.mp hv
  simp only [RL] at hx
  obtain ⟨u,us,rfl,h1,u2,us2,rfl,h2,u3,us3,rfl,h3,rfl⟩ := hx
  obtain ⟨r,hr,hR⟩ := mm2_ok (P := P) h1 h2 hq
  obtain ⟨r',hr',hR'⟩ := mm2_ok (P := P) hR h3 hv
  cases mx
  ·exact ⟨r',by simp at hr hr'; simp [Builtin.min_,hr,hr'],hR'⟩
  ·exact ⟨r',by simp at hr hr'; simp [Builtin.max_,hr,hr'],hR'⟩
 ·cases hv
theorem minmax_ok (he : Renv w m h env a) {mx : Bool} {xs : List Opd} {v : AV} (hk : okXI P o (.minmax mx xs) = true) (hv : mmv mx (evs env xs) = some v) : Reads P w m h a o v := by
 simp only [okXI] at hk
 split at hk
 ·rename_i args ts hop
  simp only [Bool.and_eq_true] at hk
  obtain ⟨rfl,h1⟩ := hk
  obtain ⟨u,hu,hR⟩ := mmv_ok (P := P) (okOpds_RL he h1) hv ts o.type
  refine ⟨u, ?_,hR⟩
  have : args.map a.eval = (args.toList.map a.eval).toArray := by rw [← Array.toList_map,Array.toArray_toList]
  simp only [if_true] at hu
  simp [execOp,hop,resolve,invoke,builtin,this,-List.map_toArray,-Array.toList_map,hu]
 ·rename_i args ts hop
  simp only [Bool.and_eq_true,Bool.not_eq_true'] at hk
  obtain ⟨rfl,h1⟩ := hk
  obtain ⟨u,hu,hR⟩ := mmv_ok (P := P) (okOpds_RL he h1) hv ts o.type
  refine ⟨u, ?_,hR⟩
  have : args.map a.eval = (args.toList.map a.eval).toArray := by rw [← Array.toList_map,Array.toArray_toList]
  simp only [Bool.false_eq_true,if_false] at hu
  simp [execOp,hop,resolve,invoke,builtin,this,-List.map_toArray,-Array.toList_map,hu]
 ·cases hk
theorem ext_ok (he : Renv w m h env a) {x : Opd} {i : Nat} {v : AV} (hk : okXI P o (.ext x i) = true) (hv : extv (x.ev env) i = some v) : Reads P w m h a o v := by
 simp only [okXI] at hk
 split at hk
 ·rename_i y j hop
  simp only [Bool.and_eq_true,beq_iff_eq] at hk
  obtain ⟨rfl,h1⟩ := hk
  have hr := okOpd_R he h1
  unfold extv at hv
  split at hv
  ·rename_i vs e
   rw [e] at hr
   simp only [R] at hr
   obtain ⟨us,e',hl⟩ := hr
   obtain ⟨u,hu,hR⟩ := (RL_get vs us hl).2 i v hv
   exact ⟨u,by simp [execOp,hop,e',Instr.extract,hu],hR⟩
  ·cases hv
 ·cases hk
end
end Go.VI
