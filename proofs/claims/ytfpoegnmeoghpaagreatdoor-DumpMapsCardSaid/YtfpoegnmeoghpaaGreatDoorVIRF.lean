/- Walking the evaluator by rewriting: loops over functions. -/
import Derived.Test.YtfpoegnmeoghpaaGreatDoorVIZ
set_option linter.unusedVariables false
set_option linter.unusedSimpArgs false
namespace Go.VI
@[go_sem] theorem awe(b:Nat)(k:Bool)(f:Nat)(cs:List AV)(h:Heap):bL b k (.fn f cs) h=(jT b k cs h).map fun(cs,h)=>(.fn f cs,h):=by simp only[bL]
@[go_sem] theorem awf(b:Nat)(k:Bool)(cs:List AV)(h:Heap):bL b k (.bR cs) h=some (.bR cs,h):=by simp[bL]
@[go_sem] theorem awg(b f:Nat)(cs:List AV)(h:Heap):jf b (.fn f cs) h=(bL b true (.fn f cs) h).map (·.1):=rfl
@[go_sem] theorem awh(cs:List AV):(AV.bR cs).val=true:=rfl
@[go_sem] theorem awi(i v o:Nat):(AV.aF i v o).val=true:=rfl
@[go_sem] theorem awj(cs:List AV):(AV.bR cs).cells=[.bR cs]:=rfl
@[go_sem] theorem awk:AV.jR.cells=[.jR]:=rfl
@[go_sem] theorem contains_nil(a:Nat):([]:List Nat).contains a=false:=rfl
@[go_sem] theorem contains_cons(a b:Nat)(l:List Nat):(b::l).contains a=(decide (a=b)||l.contains a):=by simp[List.contains_cons,Bool.beq_eq_decide_eq]
variable {L:Lib}
theorem Bb{lo ns s g it v:Nat}{caps:List AV}{env:Env}{h fr fr':Heap}{f:aL}{b:au}{d':dO}{r:AV}(hf:f.ev env=.fn it caps)(hs:s<ns)(hb:fr[s]?=some (v,b))
  (hc:(run L).fn it (.dY (h.length+s) (v+1)::caps) (h++fr.set s (v+1,.ax ⟨g,lo,h.length,ns,env⟩ .ready)) lo=some (r,h++fr')) (hr:fr'[s]?=some (v+1,.ax d' .ready)) (hit:it<1000:=by decide) :
  aQ L ⟨lo,h.length,ns,none⟩ (.mI s f g) (env,h++fr)=some (.norm,(env,h++fr'.set s (v+1,.dead))):=by
 rw[Nn];simp only[exec,hf,Ar]
 have hm:fB ⟨lo,h.length,ns,none⟩ s (.ax ⟨g,lo,h.length,ns,env⟩ .ready) (h++fr)=some (v+1,h++fr.set s (v+1,.ax ⟨g,lo,h.length,ns,env⟩ .ready)):=by
  rw[AP,hb,AO,if_pos hs]
 have e1:jr it=it:=by unfold jr;rw[if_pos hit]
 have e2:∀ y:AV,pO it [y] caps=y::caps:=fun y=>by unfold pO;rw[if_pos hit];rfl
 rw[hm];simp only[Option.bind_some,e1,e2,hc,cO,hr,if_true,gy]
theorem abW{lo ns s g it v:Nat}{caps:List AV}{env:Env}{h fr fr':Heap}{f:aL}{b:au}{d':dO}{r:AV}{e:Ex}(hf:f.ev env=.fn it caps)(hs:s<ns)(hb:fr[s]?=some (v,b))
  (hc:(run L).fn it (.dY (h.length+s) (v+1)::caps) (h++fr.set s (v+1,.ax ⟨g,lo,h.length,ns,env⟩ .ready)) lo=some (r,h++fr')) (hr:fr'[s]?=some (v+1,.ax d' (.done e))) (hit:it<1000:=by decide) :
  aQ L ⟨lo,h.length,ns,none⟩ (.mI s f g) (env,h++fr)=some (e,(env,h++fr'.set s (v+1,.dead))):=by
 rw[Nn];simp only[exec,hf,Ar]
 have hm:fB ⟨lo,h.length,ns,none⟩ s (.ax ⟨g,lo,h.length,ns,env⟩ .ready) (h++fr)=some (v+1,h++fr.set s (v+1,.ax ⟨g,lo,h.length,ns,env⟩ .ready)):=by
  rw[AP,hb,AO,if_pos hs]
 have e1:jr it=it:=by unfold jr;rw[if_pos hit]
 have e2:∀ y:AV,pO it [y] caps=y::caps:=fun y=>by unfold pO;rw[if_pos hit];rfl
 rw[hm];simp only[Option.bind_some,e1,e2,hc,cO,hr,if_true,gy]
theorem xG{cx:Cx}{id ai lo base ns g:Nat}{env pz jl:Env}{args:List AV}{x:l6}{H H1 H2:Heap}{d1 d2:dO}{e:Ex}(hid:H[id]?=some (ai,.ax ⟨g,lo,base,ns,env⟩ .ready))(h1:cx.lo<=lo)(h2:lo<=id)(h3:lo<=base)(hcl:AV.l5 args=true)
  (hx:L.iq g=some x) (hl:args.length=x.ps.length)
  (ha:aQ L ⟨lo,base,ns,some (id,ai)⟩ x.jE ((x.ps.zip args).foldl (fun e p=>e.set p.1 p.2) env,H)=some (.norm,(pz,H1))) (vQ:H1[id]?=some (ai,.ax d1 .ready))
  (hb:aQ L ⟨lo,base,ns,some (id,ai)⟩ x.body (pz,H1.set id (ai,.ax d1 .busy))=some (e,(jl,H2))) (lg:H2[id]?=some (ai,.ax d2 .busy)) :
  iY (run L) cx id ai args H=some (.bool (e==.norm),H2.set id (ai,.ax d2 (if e=.norm then .ready else .done e))):=by
 simp only[iY,hid,h1,h2,h3,hcl,and_self,if_true];rw[ae0];simp only[hx,Option.bind_some,round,hl,if_true,ha,vQ,hb,lg,Option.map_some]
theorem tX{lo ns sz s ai off:Nat}{h fr:Heap}{v:AV}{p:Nat×Nat}(hlo:lo<=h.length)(hc:v.closed=true) :
  iX ⟨lo,h.length,ns,some p⟩ (h++fr) sz (.aF (h.length+s) ai off) v=if v.cells.length=sz/\v.val=true then yI s lo ns ai off h fr v fr[s]? else none:=by
 by_cases hv:v.cells.length=sz/\v.val=true
 ·simp only[iX,hv,and_self,if_true,cO]
  cases fr[s]? with
  |none=>rfl
  |some x =>
   obtain⟨w,b⟩:=x
   cases b with
   |box cs =>
    have hle:lo<=h.length+s:=by omega
    by_cases hw:w=ai
    ·simp[yI,hw,hle,hc,gy]
    ·simp[yI,hw]
   |_=>rfl
 ·simp[iX,hv]
theorem abX{lo ns s ai off:Nat}{h fr:Heap}{k:IntKind}{n:Int}{p:Nat×Nat}(hlo:lo<=h.length) :
  iX ⟨lo,h.length,ns,some p⟩ (h++fr) 1 (.aF (h.length+s) ai off) (.int k n)=yI s lo ns ai off h fr (.int k n) fr[s]?:=by
 rw[tX hlo rfl,if_pos ⟨rfl,rfl⟩]
end Go.VI
