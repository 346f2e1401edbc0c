/- Walking the evaluator by rewriting: loops over functions. -/
import Derived.Test.YtfpoegnmeoghpaaGreatDoorVIZ
set_option linter.unusedVariables false
set_option linter.unusedSimpArgs false
namespace Go.VI
@[go_sem] theorem aSG(b:Nat)(k:Bool)(f:Nat)(cs:List AV)(h:Heap):gI b k (.fn f cs) h=(zx b k cs h).map fun(cs,h)=>(.fn f cs,h):=by simp only[gI]
@[go_sem] theorem aSH(b:Nat)(k:Bool)(cs:List AV)(h:Heap):gI b k (.iE cs) h=some (.iE cs,h):=by simp[gI]
@[go_sem] theorem aSI(b f:Nat)(cs:List AV)(h:Heap):tJ b (.fn f cs) h=(gI b true (.fn f cs) h).map (·.1):=rfl
@[go_sem] theorem aSJ(cs:List AV):(AV.iE cs).val=true:=rfl
@[go_sem] theorem aSK(i v o:Nat):(AV.bq i v o).val=true:=rfl
@[go_sem] theorem aSL(cs:List AV):(AV.iE cs).cells=[.iE cs]:=rfl
@[go_sem] theorem aSM:AV.yX.cells=[.yX]:=rfl
@[go_sem] theorem contains_nil(a:Nat):([]:List Nat).contains a=false:=rfl
@[go_sem] theorem contains_cons(a b:Nat)(l:List Nat):(b::l).contains a=(decide (a=b)||l.contains a):=by simp[List.contains_cons,Bool.beq_eq_decide_eq]
variable {L:Lib}
theorem abE{lo ns s g it v:Nat}{caps:List AV}{env:Env}{h fr fr':Heap}{f:bD}{b:aU}{d':kP}{r:AV}(hf:f.ev env=.fn it caps)(hs:s<ns)(hb:fr[s]?=some (v,b))
  (hc:(run L).fn it (.lF (h.length+s) (v+1)::caps) (h++fr.set s (v+1,.aV ⟨g,lo,h.length,ns,env⟩ .ready)) lo=some (r,h++fr')) (hr:fr'[s]?=some (v+1,.aV d' .ready)) (hit:it<1000:=by decide) :
  bV L ⟨lo,h.length,ns,none⟩ (.Gm s f g) (env,h++fr)=some (.norm,(env,h++fr'.set s (v+1,.dead))):=by
 rw[arG];simp only[exec,hf,abY]
 have hm:mK ⟨lo,h.length,ns,none⟩ s (.aV ⟨g,lo,h.length,ns,env⟩ .ready) (h++fr)=some (v+1,h++fr.set s (v+1,.aV ⟨g,lo,h.length,ns,env⟩ .ready)):=by
  rw[abz,hb,ack,if_pos hs]
 have e1:u7 it=it:=by unfold u7;rw[if_pos hit]
 have e2:∀ y:AV,II it [y] caps=y::caps:=fun y=>by unfold II;rw[if_pos hit];rfl
 rw[hm];simp only[Option.bind_some,e1,e2,hc,ku,hr,if_true,o7]
theorem at7{lo ns s g it v:Nat}{caps:List AV}{env:Env}{h fr fr':Heap}{f:bD}{b:aU}{d':kP}{r:AV}{e:Ex}(hf:f.ev env=.fn it caps)(hs:s<ns)(hb:fr[s]?=some (v,b))
  (hc:(run L).fn it (.lF (h.length+s) (v+1)::caps) (h++fr.set s (v+1,.aV ⟨g,lo,h.length,ns,env⟩ .ready)) lo=some (r,h++fr')) (hr:fr'[s]?=some (v+1,.aV d' (.done e))) (hit:it<1000:=by decide) :
  bV L ⟨lo,h.length,ns,none⟩ (.Gm s f g) (env,h++fr)=some (e,(env,h++fr'.set s (v+1,.dead))):=by
 rw[arG];simp only[exec,hf,abY]
 have hm:mK ⟨lo,h.length,ns,none⟩ s (.aV ⟨g,lo,h.length,ns,env⟩ .ready) (h++fr)=some (v+1,h++fr.set s (v+1,.aV ⟨g,lo,h.length,ns,env⟩ .ready)):=by
  rw[abz,hb,ack,if_pos hs]
 have e1:u7 it=it:=by unfold u7;rw[if_pos hit]
 have e2:∀ y:AV,II it [y] caps=y::caps:=fun y=>by unfold II;rw[if_pos hit];rfl
 rw[hm];simp only[Option.bind_some,e1,e2,hc,ku,hr,if_true,o7]
theorem Zb{cx:Cx}{id ak lo base ns g:Nat}{env I7 zk:Env}{args:List AV}{x:DU}{H H1 H2:Heap}{d1 d2:kP}{e:Ex}(hid:H[id]?=some (ak,.aV ⟨g,lo,base,ns,env⟩ .ready))(h1:cx.lo<=lo)(h2:lo<=id)(h3:lo<=base)(hcl:AV.EY args=true)
  (hx:L.qR g=some x) (hl:args.length=x.ps.length)
  (ha:bV L ⟨lo,base,ns,some (id,ak)⟩ x.xQ ((x.ps.zip args).foldl (fun e p=>e.set p.1 p.2) env,H)=some (.norm,(I7,H1))) (aci:H1[id]?=some (ak,.aV d1 .ready))
  (hb:bV L ⟨lo,base,ns,some (id,ak)⟩ x.body (I7,H1.set id (ak,.aV d1 .busy))=some (e,(zk,H2))) (zl:H2[id]?=some (ak,.aV d2 .busy)) :
  tK (run L) cx id ak args H=some (.bool (e==.norm),H2.set id (ak,.aV d2 (if e=.norm then .ready else .done e))):=by
 simp only[tK,hid,h1,h2,h3,hcl,and_self,if_true];rw[aD'];simp only[hx,Option.bind_some,round,hl,if_true,ha,aci,hb,zl,Option.map_some]
theorem Ro{lo ns sz s ak off:Nat}{h fr:Heap}{v:AV}{p:Nat×Nat}(hlo:lo<=h.length)(hc:v.closed=true) :
  qE ⟨lo,h.length,ns,some p⟩ (h++fr) sz (.bq (h.length+s) ak off) v=if v.cells.length=sz/\v.val=true then Za s lo ns ak off h fr v fr[s]? else none:=by
 by_cases hv:v.cells.length=sz/\v.val=true
 ·simp only[qE,hv,and_self,if_true,ku]
  cases fr[s]? with
  |none=>rfl
  |some x =>
   obtain⟨w,b⟩:=x
   cases b with
   |box cs =>
    have hle:lo<=h.length+s:=by omega
    by_cases hw:w=ak
    ·simp[Za,hw,hle,hc,o7]
    ·simp[Za,hw]
   |_=>rfl
 ·simp[qE,hv]
theorem aBf{lo ns s ak off:Nat}{h fr:Heap}{k:IntKind}{n:Int}{p:Nat×Nat}(hlo:lo<=h.length) :
  qE ⟨lo,h.length,ns,some p⟩ (h++fr) 1 (.bq (h.length+s) ak off) (.int k n)=Za s lo ns ak off h fr (.int k n) fr[s]?:=by
 rw[Ro hlo rfl,if_pos ⟨rfl,rfl⟩]
end Go.VI
