/- What the rows of chapter 05 share. -/
import Derived.Test.YtlcjlcllbgjplaaRwEC
import Derived.Test.YtlcjlcllbgjplaaRwEB
import Derived.Test.YtlcjlcllbgjplaaRwPC
import Derived.Test.YtlcjlcllbgjplaaRwPF
import Derived.Test.YtlcjlcllbgjplaaRwED
import Derived.Test.YtlcjlcllbgjplaaRwEA
import Derived.Test.YtlcjlcllbgjplaaRows
import Derived.WalkKit
import Derived.ProofKit
import Derived.OpenShut
import Derived.KernelRfl
import Derived.Deep.Slices
import Derived.Deep.Fields
import Derived.ChangeSame
/- What was found by the evaluator with arguments that are only read, told of calls of the program. -/
namespace Go.Proofs.Ytlcjlcllbgjplaa
open Go Go.RowKit
namespace Ev
section
variable {P:Program} {W:World} {L:Nat→Prop} {μ:Mu} {H:List AB}
theorem slLen_ofT {k:Nat}{v:AV}{news:List AV}(h:slCells k H v=some news):∃ n,slLen H v=some n:=by
  unfold slCells at h
  split at h
  · exact ⟨_,rfl⟩
  · exact ⟨_,rfl⟩
  · rename_i b off n k'
    split at h
    · split at h
      · rename_i cs hcs
        exact ⟨n,by simp[slLen,alive,hcs]⟩
      · cases h
    · cases h
  · cases h
theorem list_read (hs:Sim P W L μ H){k:Nat}(hk:0<k){v:AV}{x:Value}(hv:VR W L μ v x){es:List AV}(hes:∀ (i:Nat) (e:AV),es[i]?=some e→e.cells.length=k)(hn:∀ e∈es,∀ y∈e.cells,∃ (kd:IntKind) (n:Int),y=.int kd n)(hc:slCells k H v=some (elemCells es)):
    VR W (fun _=>False) nomu (.vs k es) x:=by
  obtain ⟨n,hl⟩:=slLen_ofT hc
  obtain ⟨p,cap,rfl,h1,h2,h3⟩:=slCells_ok hs hk hv hc hl
  obtain ⟨e1,e2⟩:=elemCells_get hk hes
  have hnm:n=es.length:=Nat.eq_of_mul_eq_mul_right hk (by omega)
  subst hnm
  by_cases h0:es.length=0
  · have:es=[]:=List.eq_nil_of_length_eq_zero h0
    subst this
    exact .vs0
  · rcases h3 with h3|⟨b,o,rfl,hr⟩
    · exact absurd h3 h0
    · have key:∀ (i:Nat) (e:AV) (j:Nat) (y:AV),es[i]?=some e→e.cells[j]?=some y→∃ r,W.cell? ⟨b,o+i * k+j,none⟩=some r∧VR W (fun _=>False) nomu y r:=by
        intro i e j y he hy
        have hjk:j<k:=by have:=(List.getElem?_eq_some_iff.1 hy).1;rw[hes i e he] at this;exact this
        have hi:=(List.getElem?_eq_some_iff.1 he).1
        have hq:i * k+j<(elemCells es).length:=by
          rw[e1]
          have:(i+1) * k≤es.length * k:=Nat.mul_le_mul_right k hi
          rw[Nat.add_mul,Nat.one_mul] at this
          omega
        obtain ⟨e',g1,g2⟩:=e2 _ _ (List.getElem?_eq_getElem hq)
        have d1:(i * k+j) / k=i:=by rw[Nat.mul_comm,Nat.mul_add_div hk,Nat.div_eq_of_lt hjk,Nat.add_zero]
        have d2:(i * k+j) % k=j:=by rw[Nat.mul_comm,Nat.mul_add_mod,Nat.mod_eq_of_lt hjk]
        rw[d1,he] at g1
        cases g1
        rw[d2,hy] at g2
        obtain ⟨r,q1,q2⟩:=hr _ _ (List.getElem?_eq_getElem hq)
        rw[← Option.some.inj g2] at q2
        obtain ⟨kd,m,rfl⟩:=hn e (List.mem_of_getElem? he) y (List.mem_of_getElem? hy)
        refine ⟨r,by rw[Nat.add_assoc];exact q1,?_⟩
        cases q2 with
        |dead h=>simp[headRef] at h
        |int=>exact .int
      refine .vs (fun i j=>(W.cell? ⟨b,o+i * k+j,none⟩).getD undef) h2 hes (fun i e j y he hy=>⟨id,?_⟩) fun i e j y he hy=>?_
      · obtain ⟨r,q1,_⟩:=key i e j y he hy
        rw[q1];rfl
      · obtain ⟨r,q1,q2⟩:=key i e j y he hy
        rw[q1];exact q2
theorem sim_none:Sim P W (fun _=>False) nomu []:={ live:=fun i B h=>(by cases h),dead:=fun i b h _=>(by cases h),out:=fun _ _=>rfl,inj:=fun i j B h _=>(by cases h),lt:=fun b h=>h.elim }
theorem told_call {C:Cfg}(hT:TblOk P C){m f:Nat}{args:List AV}{x:CRes}{H':List AB}{tc:List Nat}(h:Ev.call C m (.fn (.func f) [] []) args []=some (x,H',tc))(hG:Globs C W (fun _=>False)){rargs:Array Value}(hv:VL W (fun _=>False) nomu args rargs.toList):
    CallsIn Fence.wide 0 P f rargs W fun e W'=>(∃ L' μ',CRel W' L' μ' x e∧Sim P W' L' μ' H'∧∀ b,L' b→W.heap.size≤b)∧Below W.heap.size W W':=by
  have hok:=call_ok hT m
  obtain ⟨r,W1,h1,h2⟩:=hok.sound (tc0:=[]) h (Hp.start (P:=P) sim_none) hG
    (rf:=.func (.func f) #[] #[]) (rargs:=rargs) (.fn (rf:=[]) (rc:=[]) (by intro l;simp) rfl (by intro i x r h;simp at h) rfl (by intro i x r h;simp at h)) hv
  have e:(do let d ← Deferred.ofValue (.func (.func f) #[] #[]) rargs;invoke d.target d.args:Sem Next).run P W=.ok (.enter f rargs) W:=by
    simp only[Deferred.ofValue,Sem.run_bind,Sem.run_pure,Result.andThen,invoke]
    have:=hok.fn h rargs W
    simpa using this
  rw[e] at h1
  cases h1
  refine CallsIn.mono h2 ?_
  rintro en W' ⟨L',μ',c1,c2,_⟩
  refine ⟨⟨L',μ',c1,c2.sim,fun b hb=>?_⟩,c2.env.1,c2.env.2.1,c2.env.2.2,c2.size,fun k hk=>c2.same k hk fun i _ hi=>by cases hi⟩
  rcases c2.new b hb with h|h
  · exact h.elim
  · exact h
def Bare:AV→Prop
  |.int _ _=>True
  |.bool _=>True
  |.agg cs=>∀ x∈cs,(∃ k n,x=.int k n)∨∃ b,x=.bool b
  |.tup cs=>∀ x∈cs,(∃ k n,x=.int k n)∨(∃ b,x=.bool b)∨∃ l,x=.agg l∧∀ y∈l,∃ k n,y=.int k n
  |_=>False
theorem vr_prim {W':World}{L':Nat→Prop}{μ':Mu}{x:AV}{r:Value}(hx:(∃ k n,x=.int k n)∨∃ b,x=.bool b)(h:VR W L μ x r):VR W' L' μ' x r:=by
  rcases hx with ⟨k,n,rfl⟩|⟨b,rfl⟩
  · cases h with
    |dead h=>simp[headRef] at h
    |int=>exact .int
  · cases h with
    |dead h=>simp[headRef] at h
    |bool=>exact .bool
theorem vr_bare {v:AV}(hb:Bare v){W':World}{L':Nat→Prop}{μ':Mu}{r:Value}(h:VR W L μ v r):VR W' L' μ' v r:=by
  cases v with
  |int k n=>exact vr_prim (.inl ⟨k,n,rfl⟩) h
  |bool b=>exact vr_prim (.inr ⟨b,rfl⟩) h
  |agg cs=>
    cases h with
    |dead h=>simp[headRef] at h
    |agg h1 h2=>exact .agg h1 fun i x r hx hr=>vr_prim (hb x (List.mem_of_getElem? hx)) (h2 i x r hx hr)
  |tup cs=>
    cases h with
    |dead h=>simp[headRef] at h
    |tup h1 h2=>
      refine .tup h1 fun i x r hx hr=>?_
      rcases hb x (List.mem_of_getElem? hx) with h|h|⟨l,rfl,hl⟩
      · exact vr_prim (.inl h) (h2 i x r hx hr)
      · exact vr_prim (.inr h) (h2 i x r hx hr)
      · have:=h2 i _ r hx hr
        cases this with
        |dead h=>simp[headRef] at h
        |agg g1 g2=>exact .agg g1 fun i x r hx hr=>vr_prim (.inl (hl x (List.mem_of_getElem? hx))) (g2 i x r hx hr)
  |_=>exact hb.elim
theorem told_bare {C:Cfg}(hT:TblOk P C){m f:Nat}{args:List AV}{v:AV}{H':List AB}{tc:List Nat}(h:Ev.call C m (.fn (.func f) [] []) args []=some (.ret v,H',tc))(hb:Bare v)(hG:Globs C W (fun _=>False)){rargs:Array Value}(hv:VL W (fun _=>False) nomu args rargs.toList):
    CallsIn Fence.wide 0 P f rargs W fun e W'=>(∃ w,e=.returned w∧∀ W L μ,VR W L μ v w)∧Below W.heap.size W W':=by
  refine (told_call hT h hG hv).mono ?_
  rintro en W' ⟨⟨L',μ',c1,_⟩,c2⟩
  cases en<;>simp only[CRel] at c1
  exact ⟨⟨_,rfl,fun _ _ _=>vr_bare hb c1⟩,c2⟩
end
end Ev
end Go.Proofs.Ytlcjlcllbgjplaa

/- Roads as values of the evaluator, wherever their lists lie. -/
namespace Go.Proofs.Ytlcjlcllbgjplaa
open Go
namespace Ev
namespace Ro
open K
set_option maxRecDepth 100000
def ptCs:List Rd.Pt→List AV
  |[]=>[]
  |p::l=>.int .i64 p.height.lo::.int .i64 p.height.hi::.int .i64 p.stiff.lo::.int .i64 p.stiff.hi::.int .i64 p.rise.lo::.int .i64 p.rise.hi::.int .i64 p.full::ptCs l
def evCs:List Rd.Evt→List AV
  |[]=>[]
  |v::l=>.int .i64 v.kind::.int .i64 v.load.lo::.int .i64 v.load.hi::.int .i64 v.days::.int .i64 v.part::.int .i64 v.shows.lo::.int .i64 v.shows.hi::evCs l
def ptsC:List AV→Option (List Rd.Pt)
  |[]=>some []
  |.int .i64 a::.int .i64 b::.int .i64 c::.int .i64 d::.int .i64 e::.int .i64 f::.int .i64 g::l=>(ptsC l).map (⟨⟨a,b⟩,⟨c,d⟩,⟨e,f⟩,g⟩::·)
  |_=>none
def evsC:List AV→Option (List Rd.Evt)
  |[]=>some []
  |.int .i64 a::.int .i64 b::.int .i64 c::.int .i64 d::.int .i64 e::.int .i64 f::.int .i64 g::l=>(evsC l).map (⟨a,⟨b,c⟩,d,e,⟨f,g⟩⟩::·)
  |_=>none
@[simp] theorem ptsC_of:∀ l,ptsC (ptCs l)=some l
  |[]=>rfl
  |p::l=>by simp[ptCs,ptsC,ptsC_of l]
@[simp] theorem evsC_of:∀ l,evsC (evCs l)=some l
  |[]=>rfl
  |e::l=>by simp[evCs,evsC,evsC_of l]
theorem ptsC_eq:∀ {cs l},ptsC cs=some l→cs=ptCs l:=by
  intro cs
  induction cs using ptsC.induct with
  |case1=>intro l h;cases h;rfl
  |case2 a b c d e f g cs ih=>
    intro l h
    obtain ⟨l',h1,rfl⟩:=Option.map_eq_some_iff.1 h
    rw[ih h1];rfl
  |case3 cs h1 h2=>intro l h;unfold ptsC at h;split at h<;>first|exact absurd rfl h1|exact (h2 _ _ _ _ _ _ _ _ rfl).elim|cases h
theorem evsC_eq:∀ {cs l},evsC cs=some l→cs=evCs l:=by
  intro cs
  induction cs using evsC.induct with
  |case1=>intro l h;cases h;rfl
  |case2 a b c d e f g cs ih=>
    intro l h
    obtain ⟨l',h1,rfl⟩:=Option.map_eq_some_iff.1 h
    rw[ih h1];rfl
  |case3 cs h1 h2=>intro l h;unfold evsC at h;split at h<;>first|exact absurd rfl h1|exact (h2 _ _ _ _ _ _ _ _ rfl).elim|cases h
@[simp] theorem elem_ptE:∀ l:List Rd.Pt,elemCells (l.map ptE)=ptCs l
  |[]=>rfl
  |p::l=>by simp[elemCells,ptE,AV.cells,ptCs,elem_ptE l]
@[simp] theorem elem_evE:∀ l:List Rd.Evt,elemCells (l.map evE)=evCs l
  |[]=>rfl
  |p::l=>by simp[elemCells,evE,AV.cells,evCs,elem_evE l]
theorem evCs_len:∀ l,(evCs l).length=l.length * 7
  |[]=>rfl
  |p::l=>by simp[evCs,evCs_len l];omega
theorem evCs_app:∀ l m,evCs (l++m)=evCs l++evCs m
  |[],_=>rfl
  |p::l,m=>by simp[evCs,evCs_app l m]
theorem evCs_plain:∀ l,(evCs l).all AV.plain=true
  |[]=>rfl
  |p::l=>by simp only[evCs,List.all_cons,evCs_plain l];rfl
def ptsV (H:List AB)(v:AV)(l:List Rd.Pt):Prop:=slCells 7 H v=some (ptCs l)
def evsV (H:List AB)(v:AV)(l:List Rd.Evt):Prop:=slCells 7 H v=some (evCs l)
def roadOf (H:List AB)(v:AV):Option Rd.Road:=match v with
  | .agg [pv, ev] => (match (slCells 7 H pv).bind ptsC, (slCells 7 H ev).bind evsC with
    |some ps,some es=>if ps.length≤40∧es.length≤50 then some ⟨ps,es⟩ else none
    |_,_=>none)
  |_=>none
theorem roadOf_of {H:List AB}{pv ev:AV}{ps:List Rd.Pt}{es:List Rd.Evt}(h1:ptsV H pv ps)(h2:evsV H ev es)(hp:ps.length≤40)(he:es.length≤50):roadOf H (.agg [pv,ev])=some ⟨ps,es⟩:=by
  unfold ptsV at h1
  unfold evsV at h2
  simp[roadOf,h1,h2,hp,he]
theorem roadOf_inv {H:List AB}{v:AV}{r:Rd.Road}(h:roadOf H v=some r):∃ pv ev,v=.agg [pv,ev]∧ptsV H pv r.parts∧evsV H ev r.events∧r.parts.length≤40∧r.events.length≤50:=by
  unfold roadOf at h
  split at h
  · rename_i pv ev
    split at h
    · rename_i ps es h1 h2
      split at h
      · rename_i hb
        cases h
        obtain ⟨c1,e1,f1⟩:=Option.bind_eq_some_iff.1 h1
        obtain ⟨c2,e2,f2⟩:=Option.bind_eq_some_iff.1 h2
        exact ⟨pv,ev,rfl,by unfold ptsV;rw[e1,ptsC_eq f1],by unfold evsV;rw[e2,evsC_eq f2],hb.1,hb.2⟩
      · cases h
    · cases h
  · cases h
theorem ptsV_vs (H:List AB)(l:List Rd.Pt):ptsV H (.vs 7 (l.map ptE)) l:=by simp[ptsV,slCells]
theorem evsV_vs (H:List AB)(l:List Rd.Evt):evsV H (.vs 7 (l.map evE)) l:=by simp[evsV,slCells]
theorem evsV_sl {H:List AB}{b n:Nat}{l:List Rd.Evt}(h:H[b]?=some (.cells (evCs l)))(hn:n=l.length):evsV H (.sl b 0 n 7) l:=by
  subst hn
  simp only[evsV,slCells,h,if_true,Nat.zero_add,evCs_len,Nat.le_refl,List.drop_zero]
  rw[List.take_of_length_le (by rw[evCs_len];omega)]
theorem roadOf_r (H:List AB)(r:Rd.Road)(hp:r.parts.length≤40)(he:r.events.length≤50):roadOf H (.agg (roadCs r))=some r:=roadOf_of (ptsV_vs H r.parts) (evsV_vs H r.events) hp he
end Ro
end Ev
end Go.Proofs.Ytlcjlcllbgjplaa

/- Package road, told: the configuration that its functions were gone through in. -/
namespace Go.Proofs.Ytlcjlcllbgjplaa
open Go Go.Proofs Go.RowKit
namespace Ev
namespace Ro
open K
set_option maxRecDepth 100000
set_option maxHeartbeats 4000000
theorem globs_all (W:World)(L:Nat→Prop)(C:Cfg):Globs C W L:=fun g cs h=>by cases h
theorem tblQ:TblOk Try.prog cfgQ:=by
  refine ⟨fun f fn h=>FT.find_all tree_is h,fun f g h=>?_,fun _ _ h=>(by cases h),dfk_ok⟩
  have e:cfgQ.ext f=(Bool.rec none (some restG) (Nat.beq f 127):Option (List AV→Option AV)):=rfl
  rw[e] at h
  cases hb:Nat.beq f 127 with
  |false=>rw[hb] at h;cases h
  |true=>
    rw[hb] at h
    cases h
    obtain rfl:=Nat.eq_of_beq_eq_true hb
    exact ⟨rest_known,rest_ext⟩
noncomputable def allF (p:AFunc→Bool):FT→Bool:=fun t=>FT.rec true (fun _ f _ _ ihl ihr=>Q.andB (p f) (Q.andB ihl ihr)) t
theorem allF_all {p:AFunc→Bool}:∀ {t:FT},allF p t=true→FT.All (fun _ f=>p f=true) t
  |.leaf,_=>trivial
  |.node k f l r,h=>by
    have e:allF p (.node k f l r)=Q.andB (p f) (Q.andB (allF p l) (allF p r)):=rfl
    rw[e,Q.andB_eq,Q.andB_eq,Bool.and_eq_true,Bool.and_eq_true] at h
    exact ⟨h.1,allF_all h.2.1,allF_all h.2.2⟩
theorem all_ok:allF Q.okF fnTree=true:=by kernel_rfl
theorem quickQ:Q.Quick cfgQ:=⟨fun _=>rfl,fun _ _ h=>FT.find_all (allF_all all_ok) h⟩
theorem clash_found:∃ H' tc,Ev.call cfgQ 40 (.fn (.func 18) [] []) [.agg (roadCs clashRd)] []=some (.ret (.tup [.int .i64 12,.int .i64 0]),H',tc):=by
  have h:=clash_q
  generalize hr:Q.callQ cfgQ 40 (.fn (.func 18) [] []) [.agg (roadCs clashRd)] (.e Q.cap) 0=r at h
  unfold clashB at h
  split at h
  · rename_i a b hp m tc
    rw[Q.andB_eq,Bool.and_eq_true] at h
    have ha:=Nat.eq_of_beq_eq_true h.1
    have hb:=Nat.eq_of_beq_eq_true h.2
    subst ha hb
    exact ⟨_,tc,(Q.found quickQ Q.wh_empty hr).1⟩
  · cases h
noncomputable def cfgK:Cfg where
  fns:=FT.find fnTree
  glob:=fun _=>none
  dfk:=fun f=>Bool.rec none (some (119,true)) (memN closures f)
  ext:=fun f=>Bool.rec none (some restG) (Nat.beq f 127)
  exth:=fun _=>none
  calm:=true
  whole:=fun _=>true
theorem known (f : Nat) (h : ∃ F, Try.prog.funcs[f]? = some F ∧ (F.name == "runtime.NumGoroutine")=false∧∃ af:AFunc,compFn Try.prog F=some af.strip):∃ F,Try.prog.funcs[f]?=some F∧(F.name== "runtime.NumGoroutine")=false∧F.body.isNone=false:=by
  obtain ⟨F,f1,f2,af,f3⟩:=h
  obtain ⟨c,g1,_⟩:=compFn_ok f3
  exact ⟨F,f1,f2,by rw[g1];rfl⟩
theorem tblK:TblOk Try.prog cfgK:=by
  refine ⟨fun f fn h=>FT.find_all tree_is h,fun f g h=>?_,fun _ _ h=>(by cases h),dfk_ok⟩
  have e:cfgK.ext f=(Bool.rec none (some restG) (Nat.beq f 127):Option (List AV→Option AV)):=rfl
  rw[e] at h
  cases hb:Nat.beq f 127 with
  |false=>rw[hb] at h;cases h
  |true=>
    rw[hb] at h
    cases h
    obtain rfl:=Nat.eq_of_beq_eq_true hb
    exact ⟨rest_known,rest_ext⟩
end Ro
end Ev
end Go.Proofs.Ytlcjlcllbgjplaa

/- Package road, told to its laws. -/
namespace Go.Proofs.Ytlcjlcllbgjplaa
open Go Go.Proofs Go.RowKit
namespace Ev
namespace Ro
open K
set_option maxRecDepth 100000
set_option maxHeartbeats 4000000
theorem has_of {C:Cfg}{f:Nat}{af:AFunc}(h1:C.ext f=none)(h2:C.exth f=none)(h3:C.fns f=some af)(h4:C.whole f=true):Has C f af:=⟨h1,h2,h3,h4⟩
theorem fits_i64 {n:Int}(h0:-1000000000≤n)(h1:n≤1000000000):Q.fits .i64 n=true:=by
  cases n with
  |ofNat m=>
    have h:m≤9223372036854775807:=by simp only[Int.ofNat_eq_natCast] at h1;omega
    exact Nat.ble_eq_true_of_le h
  |negSucc m=>
    have h:Nat.succ m≤9223372036854775808:=by omega
    exact Nat.ble_eq_true_of_le h
theorem rest_k (n:Nat)(H:List AB)(d:Int)(p:Rd.Tr)(hp:TrOk p)(h l:Int)(h0:-1000000≤h)(h1:h≤1000000)(d0:0≤d)(d1:d≤1000):Ev.call cfgK (n+1) (.fn (.func 127) [] []) [.agg [.int .i64 d],.agg [.int .i64 p.stiff,.int .i64 p.rise,.int .i64 p.full],.int .i64 h,.int .i64 l] H=some (.ret (.int .i64 (Rd.rested p h d)),H,[]):=by
  show enter cfgK (Ev.call cfgK n) 127 ([]++[.agg [.int .i64 d],.agg [.int .i64 p.stiff,.int .i64 p.rise,.int .i64 p.full],.int .i64 h,.int .i64 l]++[]) H=_
  unfold enter
  have e1:cfgK.ext 127=some restG:=rfl
  rw[e1]
  have hm0:0≤d * p.rise:=Int.mul_nonneg d0 hp.r1
  have hm1:d * p.rise≤5000:=by
    have:=Int.mul_le_mul d1 hp.r2 hp.r1 (by decide)
    omega
  have e2:restG ([]++[.agg [.int .i64 d],.agg [.int .i64 p.stiff,.int .i64 p.rise,.int .i64 p.full],.int .i64 h,.int .i64 l]++[])=some (.int .i64 (Rd.rested p h d)):=by
    show restV d p.rise p.full h=_
    unfold restV
    rw[Q.addI_eq,fits_i64 (by omega) (by omega),fits_i64 (by omega) (by omega)]
    show some (AV.int .i64 (Bool.rec (h+d * p.rise) p.full (Q.leI p.full (h+d * p.rise))))=_
    rw[Q.leI_eq]
    unfold Rd.rested
    by_cases hle:p.full≤h+d * p.rise
    · rw[decide_eq_true hle,Int.min_eq_left hle]
    · rw[decide_eq_false hle,Int.min_eq_right (by omega)]
  simp only[e2,Option.map_some]
theorem knowsK:Knows cfgK where
  calm:=rfl
  wh:=fun _=>rfl
  within:=has_of rfl rfl (by kernel_rfl) rfl
  isLoad:=has_of rfl rfl (by kernel_rfl) rfl
  always:=has_of rfl rfl (by kernel_rfl) rfl
  isPart:=has_of rfl rfl (by kernel_rfl) rfl
  isEvent:=has_of rfl rfl (by kernel_rfl) rfl
  every:=has_of rfl rfl (by kernel_rfl) rfl
  isSpan:=has_of rfl rfl (by kernel_rfl) rfl
  must:=has_of rfl rfl (by kernel_rfl) rfl
  sunk:=has_of rfl rfl (by kernel_rfl) rfl
  rested:=has_of rfl rfl (by kernel_rfl) rfl
  look:=has_of rfl rfl (by kernel_rfl) rfl
  pass:=has_of rfl rfl (by kernel_rfl) rfl
  rest:=rest_k
  height:=has_of rfl rfl (by kernel_rfl) rfl
  first:=has_of rfl rfl (by kernel_rfl) rfl
  parts:=has_of rfl rfl (by kernel_rfl) rfl
  parts1:=has_of rfl rfl (by kernel_rfl) rfl
  ways:=has_of rfl rfl (by kernel_rfl) rfl
  all:=has_of rfl rfl (by kernel_rfl) rfl
  all1:=has_of rfl rfl (by kernel_rfl) rfl
  all11:=has_of rfl rfl (by kernel_rfl) rfl
  told:=has_of rfl rfl (by kernel_rfl) rfl
  told1:=has_of rfl rfl (by kernel_rfl) rfl
  can:=has_of rfl rfl (by kernel_rfl) rfl
  known:=has_of rfl rfl (by kernel_rfl) rfl
  joined:=has_of rfl rfl (by kernel_rfl) rfl
  span:=has_of rfl rfl (by kernel_rfl) rfl
  heights:=has_of rfl rfl (by kernel_rfl) rfl
  heights1:=has_of rfl rfl (by kernel_rfl) rfl
  left:=has_of rfl rfl (by kernel_rfl) rfl
  index:=has_of rfl rfl (by kernel_rfl) rfl
  cont:=has_of rfl rfl (by kernel_rfl) rfl
  sure:=has_of rfl rfl (by kernel_rfl) rfl
  sure1:=has_of rfl rfl (by kernel_rfl) rfl
  may:=has_of rfl rfl (by kernel_rfl) rfl
  may1:=has_of rfl rfl (by kernel_rfl) rfl
  open_ := has_of rfl rfl (by kernel_rfl) rfl
  count:=has_of rfl rfl (by kernel_rfl) rfl
  count1:=has_of rfl rfl (by kernel_rfl) rfl
  firstN:=has_of rfl rfl (by kernel_rfl) rfl
  height2:=has_of rfl rfl (by kernel_rfl) rfl
  sinks2:=has_of rfl rfl (by kernel_rfl) rfl
  sinks3:=has_of rfl rfl (by kernel_rfl) rfl
  bears2:=has_of rfl rfl (by kernel_rfl) rfl
  rest2:=has_of rfl rfl (by kernel_rfl) rfl
  rest3:=has_of rfl rfl (by kernel_rfl) rfl
  most2:=has_of rfl rfl (by kernel_rfl) rfl
  eHeight:=has_of rfl rfl (by kernel_rfl) rfl
  eSinks:=has_of rfl rfl (by kernel_rfl) rfl
  eBears:=has_of rfl rfl (by kernel_rfl) rfl
  eMost:=has_of rfl rfl (by kernel_rfl) rfl
  eRest:=has_of rfl rfl (by kernel_rfl) rfl
  eBelow:=has_of rfl rfl (by kernel_rfl) rfl
  eWeak:=has_of rfl rfl (by kernel_rfl) rfl
  dfHeight:=rfl
  dfSinks:=rfl
  dfBears:=rfl
  dfMost:=rfl
  dfRest:=rfl
  dfBelow:=rfl
  dfWeak:=rfl
def intsOf:List AV→Option (List Int)
  |[]=>some []
  |.int .i64 n::l=>if -9223372036854775808≤n∧n≤9223372036854775807 then (intsOf l).map (n::·) else none
  |_=>none
theorem intsOf_eq:∀ {l:List AV} {ns:List Int},intsOf l=some ns→l=ns.map (AV.int .i64)∧∀ n∈ns,-9223372036854775808≤n∧n≤9223372036854775807
  |[],ns,h=>by cases h;exact ⟨rfl,by simp⟩
  |v::l,ns,h=>by
    unfold intsOf at h
    split at h
    · rename_i e;cases e
    · rename_i n l' e
      obtain ⟨rfl,rfl⟩:=List.cons.inj e
      split at h
      · rename_i hb
        obtain ⟨ms,h1,rfl⟩:=Option.map_eq_some_iff.1 h
        obtain ⟨h2,h3⟩:=intsOf_eq h1
        refine ⟨by rw[List.map_cons,← h2],fun m hm=>?_⟩
        rcases List.mem_cons.1 hm with rfl|hm
        · exact hb
        · exact h3 m hm
      · cases h
    · cases h
def gRd (spec:Rd.Road→List Int→Option AV)(args:List AV)(H:List AB):Option AV:=
  match args with
  |v::rest=>(roadOf H v).bind fun r=>(intsOf rest).bind fun ns=>spec r ns
  |[]=>none
theorem rd_arg {W:World}{L:Nat→Prop}{μ:Mu}{H:List AB}(hs:Sim Try.prog W L μ H){v:AV}{x:Value}{r:Rd.Road}(hc:roadOf H v=some r)(hv:VR W L μ v x):VR W (fun _=>False) nomu (.agg (roadCs r)) x:=by
  obtain ⟨pv,ev,rfl,h1,h2,_,_⟩:=roadOf_inv hc
  cases hv with
  |dead h=>simp[headRef] at h
  |@agg _ _ rs hl hr=>
    match rs,hl with
    |[r0,r1],_=>
      have a0:=hr 0 _ _ rfl rfl
      have a1:=hr 1 _ _ rfl rfl
      refine .agg rfl fun i x r hx hr'=>?_
      match i,hx,hr' with
      |0,hx,hr'=>
        cases hx;cases hr'
        refine list_read hs (by decide) a0 (fun i e he=>?_) (fun e he y hy=>?_) (by rw[elem_ptE];exact h1)
        · rw[List.getElem?_map] at he
          obtain ⟨p,_,rfl⟩:=Option.map_eq_some_iff.1 he
          rfl
        · obtain ⟨p,_,rfl⟩:=List.mem_map.1 he
          simp only[ptE,AV.cells,List.mem_cons,List.not_mem_nil,or_false] at hy
          rcases hy with rfl|rfl|rfl|rfl|rfl|rfl|rfl<;>exact ⟨_,_,rfl⟩
      |1,hx,hr'=>
        cases hx;cases hr'
        refine list_read hs (by decide) a1 (fun i e he=>?_) (fun e he y hy=>?_) (by rw[elem_evE];exact h2)
        · rw[List.getElem?_map] at he
          obtain ⟨p,_,rfl⟩:=Option.map_eq_some_iff.1 he
          rfl
        · obtain ⟨p,_,rfl⟩:=List.mem_map.1 he
          simp only[evE,AV.cells,List.mem_cons,List.not_mem_nil,or_false] at hy
          rcases hy with rfl|rfl|rfl|rfl|rfl|rfl|rfl<;>exact ⟨_,_,rfl⟩
      |i+2,hx,hr'=>simp[roadCs] at hx
theorem grd_ok {spec : Rd.Road → List Int → Option AV} {f : Nat} (hk : ∃ F, Try.prog.funcs[f]? = some F ∧ (F.name == "runtime.NumGoroutine")=false∧∃ af:AFunc,compFn Try.prog F=some af.strip)
    (hf:∀ (r:Rd.Road) (ns:List Int) (v:AV),r.parts.length≤40→r.events.length≤50→(∀ n∈ns,-9223372036854775808≤n∧n≤9223372036854775807)→spec r ns=some v→Bare v∧∃ C:Cfg,TblOk Try.prog C∧(∀ W L,Globs C W L)∧∃ m H' tc,Ev.call C m (.fn (.func f) [] []) (.agg (roadCs r)::ns.map (AV.int .i64)) []=some (.ret v,H',tc)):
    (∃ F, Try.prog.funcs[f]? = some F ∧ (F.name == "runtime.NumGoroutine")=false∧F.body.isNone=false)∧∀ (args:List AV) (H:List AB) (v:AV) (rargs:Array Value) (W:World) (L:Nat→Prop) (μ:Mu),gRd spec args H=some v→VL W L μ args rargs.toList→Sim Try.prog W L μ H →
      CallsIn Fence.wide 0 Try.prog f rargs W fun e W'=>(∃ w,e=.returned w∧VR W' L nomu v w)∧Below W.heap.size W W':=by
  refine ⟨known f hk,fun args H v rargs W L μ h hv hs=>?_⟩
  unfold gRd at h
  split at h
  · rename_i u rest
    obtain ⟨r,h1,h2⟩:=Option.bind_eq_some_iff.1 h
    obtain ⟨ns,h3,h4⟩:=Option.bind_eq_some_iff.1 h2
    obtain ⟨rfl,hns⟩:=intsOf_eq h3
    obtain ⟨_,_,_,_,_,b1,b2⟩:=roadOf_inv h1
    obtain ⟨hb,C,hT,hG,m,H',tc,hcall⟩:=hf r ns v b1 b2 hns h4
    refine (told_bare hT hcall hb (hG _ _) ⟨hv.1,fun i x r hx hr=>?_⟩).mono fun e W' ⟨⟨w,h1,h2⟩,h3⟩=>⟨⟨w,h1,h2 _ _ _⟩,h3⟩
    match i,hx with
    |0,hx=>cases hx;exact rd_arg hs h1 (hv.2 0 _ r rfl hr)
    |i+1,hx=>
      rw[List.getElem?_cons_succ,List.getElem?_map] at hx
      obtain ⟨n,h5,rfl⟩:=Option.map_eq_some_iff.1 hx
      exact vr_prim (.inl ⟨_,_,rfl⟩) (hv.2 (i+1) (.int .i64 n) r (by rw[List.getElem?_cons_succ,List.getElem?_map,h5];rfl) hr)
  · cases h
def sHeight (r:Rd.Road):List Int→Option AV|[n,v]=>some (spanRV r (Rd.isPart r n&&Rd.isEvent r v) (Rd.heightsR r n.toNat (v.toNat+1)))|_=>none
def sSinks (r:Rd.Road):List Int→Option AV|[n,l]=>some (spanRV r (Rd.isPart r n&&Rd.isLoad l) (Rd.sinksR r n.toNat l))|_=>none
def sBears (r:Rd.Road):List Int→Option AV|[l]=>some (numRV r (Rd.isLoad l) (Rd.bearsR r l))|_=>none
def sMost (r:Rd.Road):List Int→Option AV|[]=>some (findRV r true (Rd.mostR r))|_=>none
def sRest (r:Rd.Road):List Int→Option AV|[l]=>some (findRV r (Rd.isLoad l) (Rd.restR r l))|_=>none
def sBelow (r:Rd.Road):List Int→Option AV|[]=>some (belowRV r)|_=>none
def sWeak (r:Rd.Road):List Int→Option AV|[]=>some (numRV r true (Rd.weakR r))|_=>none
def eqRd (r s:Rd.Road):Bool:=(r.parts.map fun p=>[p.height.lo,p.height.hi,p.stiff.lo,p.stiff.hi,p.rise.lo,p.rise.hi,p.full])==(s.parts.map fun p=>[p.height.lo,p.height.hi,p.stiff.lo,p.stiff.hi,p.rise.lo,p.rise.hi,p.full])&&(r.events.map fun v=>[v.kind,v.load.lo,v.load.hi,v.days,v.part,v.shows.lo,v.shows.hi])==(s.events.map fun v=>[v.kind,v.load.lo,v.load.hi,v.days,v.part,v.shows.lo,v.shows.hi])
theorem map_inj {α β:Type}{f:α→β}(hf:∀ p q,f p=f q→p=q):∀ {l m:List α},l.map f=m.map f→l=m
  |[],[],_=>rfl
  |[],q::m,h=>by cases h
  |p::l,[],h=>by cases h
  |p::l,q::m,h=>by
    obtain ⟨h1,h2⟩:=List.cons.inj h
    rw[hf p q h1,map_inj hf h2]
theorem eqRd_eq {r s:Rd.Road}(h:eqRd r s=true):r=s:=by
  unfold eqRd at h
  rw[Bool.and_eq_true,beq_iff_eq,beq_iff_eq] at h
  obtain ⟨a,b⟩:=r
  obtain ⟨c,d⟩:=s
  have h1 : a = c := map_inj (fun p q e => by
    obtain ⟨⟨a,b⟩,⟨c,d⟩,⟨e,f⟩,g⟩:=p
    obtain ⟨⟨a',b'⟩,⟨c',d'⟩,⟨e',f'⟩,g'⟩:=q
    simp at e
    simp[e]) h.1
  have h2 : b = d := map_inj (fun p q e => by
    obtain ⟨a,⟨b,c⟩,d,e,⟨f,g⟩⟩:=p
    obtain ⟨a',⟨b',c'⟩,d',e',⟨f',g'⟩⟩:=q
    simp at e
    simp[e]) h.2
  rw[h1,h2]
def sClash (r:Rd.Road):List Int→Option AV|[]=>if eqRd r clashRd=true then some (.tup [.int .i64 12,.int .i64 0]) else none|_=>none
noncomputable def exthL0 (f:Nat):Option (List AV→List AB→Option AV):=
  if f=14 then some (gRd sHeight) else if f=15 then some (gRd sSinks) else if f=16 then some (gRd sBears) else if f=19 then some (gRd sMost) else if f=17 then some (gRd sRest) else if f=26 then some (gRd sBelow) else if f=34 then some (gRd sWeak) else if f=18 then some (gRd sClash) else none
theorem bare_span (s:Clm.Sp)(e:Int):Bare (.tup [spA s,.int .i64 e]):=by
  intro x hx
  simp only[List.mem_cons,List.not_mem_nil,or_false] at hx
  rcases hx with rfl|rfl
  · refine .inr (.inr ⟨_,rfl,fun y hy=>?_⟩)
    simp only[List.mem_cons,List.not_mem_nil,or_false] at hy
    rcases hy with rfl|rfl<;>exact ⟨_,_,rfl⟩
  · exact .inl ⟨_,_,rfl⟩
theorem bare_two (a e:Int):Bare (.tup [.int .i64 a,.int .i64 e]):=by
  intro x hx
  simp only[List.mem_cons,List.not_mem_nil,or_false] at hx
  rcases hx with rfl|rfl<;>exact .inl ⟨_,_,rfl⟩
theorem bare_three (a b e:Int):Bare (.tup [.int .i64 a,.int .i64 b,.int .i64 e]):=by
  intro x hx
  simp only[List.mem_cons,List.not_mem_nil,or_false] at hx
  rcases hx with rfl|rfl|rfl<;>exact .inl ⟨_,_,rfl⟩
theorem exth0_ok (f : Nat) (g : List AV → List AB → Option AV) (h : exthL0 f = some g) : (∃ F, Try.prog.funcs[f]? = some F ∧ (F.name == "runtime.NumGoroutine")=false∧F.body.isNone=false)∧∀ (args:List AV) (H:List AB) (v:AV) (rargs:Array Value) (W:World) (L:Nat→Prop) (μ:Mu),g args H=some v→VL W L μ args rargs.toList→Sim Try.prog W L μ H→Globs cfgK W L →
      CallsIn Fence.wide 0 Try.prog f rargs W fun e W'=>(∃ w,e=.returned w∧VR W' L nomu v w)∧Below W.heap.size W W':=by
  have kn : ∀ {f : Nat} {af : AFunc}, (∃ F, Try.prog.funcs[f]? = some F ∧ (F.name == "runtime.NumGoroutine")=false∧compFn Try.prog F=some af.strip)→∃ F,Try.prog.funcs[f]?=some F∧(F.name== "runtime.NumGoroutine")=false∧∃ af:AFunc,compFn Try.prog F=some af.strip:=fun ⟨F,h1,h2,h3⟩=>⟨F,h1,h2,_,h3⟩
  unfold exthL0 at h
  split at h
  · rename_i hf;subst hf;cases h
    obtain ⟨k1,k2⟩:=grd_ok (spec:=sHeight) (kn is14) fun r ns v b1 b2 hr hs=>by
      unfold sHeight at hs
      split at hs<;>cases hs
      exact ⟨bare_span _ _,cfgK,tblK,fun _ _=>globs_all _ _ _,0+r.events.length+18,_,_,heightE knowsK ⟨by omega,by omega⟩ 0 _ _ (hr _ (by simp))⟩
    exact ⟨k1,fun args H v rargs W L μ a b c _=>k2 args H v rargs W L μ a b c⟩
  split at h
  · rename_i hf;subst hf;cases h
    obtain ⟨k1,k2⟩:=grd_ok (spec:=sSinks) (kn is15) fun r ns v b1 b2 hr hs=>by
      unfold sSinks at hs
      split at hs<;>cases hs
      exact ⟨bare_span _ _,cfgK,tblK,fun _ _=>globs_all _ _ _,0+r.events.length+18,_,_,sinksE knowsK ⟨by omega,by omega⟩ 0 _ _⟩
    exact ⟨k1,fun args H v rargs W L μ a b c _=>k2 args H v rargs W L μ a b c⟩
  split at h
  · rename_i hf;subst hf;cases h
    obtain ⟨k1,k2⟩:=grd_ok (spec:=sBears) (kn is16) fun r ns v b1 b2 hr hs=>by
      unfold sBears at hs
      split at hs<;>cases hs
      exact ⟨bare_two _ _,cfgK,tblK,fun _ _=>globs_all _ _ _,0+r.events.length+18,_,_,bearsE knowsK ⟨by omega,by omega⟩ 0 _⟩
    exact ⟨k1,fun args H v rargs W L μ a b c _=>k2 args H v rargs W L μ a b c⟩
  split at h
  · rename_i hf;subst hf;cases h
    obtain ⟨k1,k2⟩:=grd_ok (spec:=sMost) (kn is19) fun r ns v b1 b2 hr hs=>by
      unfold sMost at hs
      split at hs<;>cases hs
      exact ⟨bare_two _ _,cfgK,tblK,fun _ _=>globs_all _ _ _,0+r.events.length+18,_,_,mostE knowsK ⟨by omega,by omega⟩ 0⟩
    exact ⟨k1,fun args H v rargs W L μ a b c _=>k2 args H v rargs W L μ a b c⟩
  split at h
  · rename_i hf;subst hf;cases h
    obtain ⟨k1,k2⟩:=grd_ok (spec:=sRest) (kn is17) fun r ns v b1 b2 hr hs=>by
      unfold sRest at hs
      split at hs<;>cases hs
      exact ⟨bare_two _ _,cfgK,tblK,fun _ _=>globs_all _ _ _,0+r.events.length+18,_,_,restE knowsK ⟨by omega,by omega⟩ 0 _⟩
    exact ⟨k1,fun args H v rargs W L μ a b c _=>k2 args H v rargs W L μ a b c⟩
  split at h
  · rename_i hf;subst hf;cases h
    obtain ⟨k1,k2⟩:=grd_ok (spec:=sBelow) (kn is26) fun r ns v b1 b2 hr hs=>by
      unfold sBelow at hs
      split at hs<;>cases hs
      exact ⟨bare_three _ _ _,cfgK,tblK,fun _ _=>globs_all _ _ _,0+r.events.length+18,_,_,belowE knowsK ⟨by omega,by omega⟩ 0⟩
    exact ⟨k1,fun args H v rargs W L μ a b c _=>k2 args H v rargs W L μ a b c⟩
  split at h
  · rename_i hf;subst hf;cases h
    obtain ⟨k1,k2⟩:=grd_ok (spec:=sWeak) (kn is34) fun r ns v b1 b2 hr hs=>by
      unfold sWeak at hs
      split at hs<;>cases hs
      exact ⟨bare_two _ _,cfgK,tblK,fun _ _=>globs_all _ _ _,0+r.events.length+18,_,_,weakE knowsK ⟨by omega,by omega⟩ 0⟩
    exact ⟨k1,fun args H v rargs W L μ a b c _=>k2 args H v rargs W L μ a b c⟩
  split at h
  · rename_i hf;subst hf;cases h
    obtain ⟨k1,k2⟩:=grd_ok (spec:=sClash) (kn is18) fun r ns v b1 b2 hr hs=>by
      unfold sClash at hs
      split at hs
      · split at hs
        · rename_i he
          cases hs
          rw[eqRd_eq he]
          obtain ⟨H',tc,hc⟩:=clash_found
          exact ⟨bare_two _ _,cfgQ,tblQ,fun _ _=>globs_all _ _ _,40,_,_,hc⟩
        · cases hs
      · cases hs
    exact ⟨k1,fun args H v rargs W L μ a b c _=>k2 args H v rargs W L μ a b c⟩
  · cases h
end Ro
end Ev
end Go.Proofs.Ytlcjlcllbgjplaa

/- Chapter 05: what the laws are told; alive. -/
namespace Go.Proofs.Ytlcjlcllbgjplaa
open Go Go.Proofs Go.RowKit
namespace Ev
namespace Ro
open K
set_option maxRecDepth 1000000
noncomputable def cfgL0:Cfg where
  fns:=FT.find fnTree
  glob:=fun _=>none
  dfk:=fun _=>none
  ext:=fun _=>none
  exth:=exthL0
  calm:=true
  whole:=fun _=>true
theorem tblL0 : TblOk Try.prog cfgL0 := ⟨fun f fn h => FT.find_all tree_is h, fun _ _ h => (by cases h), fun f g h => by
  obtain ⟨k1,k2⟩:=exth0_ok f g h
  exact ⟨k1,fun args H v rargs W L μ a b c d=>k2 args H v rargs W L μ a b c (globs_all _ _ _)⟩,fun _ _ _ h=>(by cases h)⟩
noncomputable def isTrue (o:Option (CRes × List AB × List Nat)):Bool:=match o with
  |some (.ret (.bool b),_,_)=>b
  |_=>false
theorem alive_found:isTrue (Ev.call cfgL0 5 (.fn (.func 21) [] []) [] [])=true:=by kernel_rfl
theorem alive_told (W:World):CallsIn Fence.wide 0 Try.prog 21 #[] W fun e W'=>e=.returned (.bool true)∧Below W.heap.size W W':=by
  have h:=alive_found
  generalize hr:Ev.call cfgL0 5 (.fn (.func 21) [] []) [] []=o at h
  unfold isTrue at h
  split at h
  · rename_i b H' tc
    subst h
    exact top_bool tblL0 hr W (globs_all _ _ _)
  · cases h
end Ro
end Ev
end Go.Proofs.Ytlcjlcllbgjplaa

/- What is returned of a road, by its truths: plain. -/
namespace Go.Proofs.Ytlcjlcllbgjplaa
open Go
namespace Rd
open Clm (Sp Hull spanL mem_span setOf)
def Lds (es:List Evt)(ls:List Int):Prop:=ls.length=es.length∧∀ (i:Nat) (v:Evt),es[i]?=some v→(v.kind=0→v.load.has (ls.getD i 0))∧(v.kind≠0→ls.getD i 0=0)
theorem lds_mem:∀ (es:List Evt) (ls:List Int),Lds es ls→ls∈allR es
  |[],[],_=>by simp[allR]
  |[],x::ls,h=>by have:=h.1;simp at this
  |e::es,[],h=>by have:=h.1;simp at this
  |e::es,x::ls,h=>by
    have h0:=h.2 0 e rfl
    have ht:=lds_mem es ls ⟨by simpa using h.1,fun i v hv=>h.2 (i+1) v hv⟩
    unfold allR
    by_cases hk:e.kind=0
    · rw[if_pos hk,List.mem_flatMap]
      exact ⟨x,(mem_span _ _).2 (h0.1 hk),List.mem_map.2 ⟨ls,ht,rfl⟩⟩
    · rw[if_neg hk]
      have:x=0:=h0.2 hk
      subst this
      exact List.mem_map.2 ⟨ls,ht,rfl⟩
theorem mem_all (es:List Evt)(ls:List Int):ls∈allR es↔Lds es ls:=by
  refine ⟨fun h=>?_,lds_mem es ls⟩
  obtain ⟨h1,h2⟩:=mem_allR es ls h
  refine ⟨h1,fun i v hv=>?_⟩
  obtain ⟨hi,rfl⟩:=List.getElem?_eq_some_iff.1 hv
  exact h2 i hi
theorem getD_l {l:List Int}{i:Nat}(h:i<l.length)(m:List Int):(l++m).getD i 0=l.getD i 0:=by
  rw[List.getD_eq_getElem?_getD,List.getD_eq_getElem?_getD,List.getElem?_append_left h]
def rightE (r:Road)(i:Nat)(p:Tr)(ls:List Int)(h:Int):Prop:=∀ (j:Nat) (v:Evt),r.events[j]?=some v→v.kind=2→v.part=i→v.shows.lo≤heightR r p h ls j∧heightR r p h ls j≤v.shows.hi
theorem every_bit (r:Road){j:Nat}(h:j<r.events.length):bit (everyR r) j=true:=by
  unfold bit everyR
  rw[Nat.testBit_two_pow_sub_one]
  exact decide_eq_true h
theorem right_iff (r:Road)(i:Nat)(p:Tr)(ls:List Int)(h:Int):right r i p ls (everyR r) h↔rightE r i p ls h:=by
  unfold right rightE
  constructor
  · intro H j v hv hk hp
    exact H (v,j) (List.mem_zipIdx_iff_getElem?.2 hv) (every_bit r (List.getElem?_eq_some_iff.1 hv).1) hk hp
  · rintro H ⟨v,j⟩ hq _ hk hp
    exact H j v (List.mem_zipIdx_iff_getElem?.1 hq) hk hp
def Tru (r:Road)(ls:List Int)(i:Nat)(p:Tr)(h:Int):Prop:=p∈partsR (r.parts.getD i default)∧(r.parts.getD i default).height.has h∧rightE r i p ls h
def All (r:Road)(ls:List Int):Prop:=Lds r.events ls∧∀ i,i<r.parts.length→∃ p h,Tru r ls i p h
theorem way_tru {r:Road}{ls:List Int}{i:Nat}{w:Way}(hw:w∈waysR r i ls (everyR r)){h:Int}(hh:w.first.has h):Tru r ls i w.part h:=by
  obtain ⟨h1,h2,_⟩:=(mem_ways _ _ _ _ _).1 hw
  rw[h2,firstR_has,right_iff] at hh
  exact ⟨h1,hh⟩
theorem tru_way {r:Road}{ls:List Int}{i:Nat}{p:Tr}{h:Int}(ht:Tru r ls i p h):∃ w∈waysR r i ls (everyR r),w.part=p∧w.first.has h:=by
  have hf:(firstR r i p ls (everyR r)).has h:=(firstR_has _ _ _ _ _ _).2 ⟨ht.2.1,(right_iff _ _ _ _ _).2 ht.2.2⟩
  exact ⟨⟨p,firstR r i p ls (everyR r)⟩,(mem_ways _ _ _ _ _).2 ⟨ht.1,rfl,Int.le_trans hf.1 hf.2⟩,rfl,hf⟩
theorem way_lo {r:Road}{ls:List Int}{i:Nat}{w:Way}(hw:w∈waysR r i ls (everyR r)):w.first.has w.first.lo∧w.first.has w.first.hi:=by
  obtain ⟨_,_,h3⟩:=(mem_ways _ _ _ _ _).1 hw
  exact ⟨⟨Int.le_refl _,h3⟩,⟨h3,Int.le_refl _⟩⟩
theorem told_all (r:Road)(ls:List Int):ls∈toldR r (everyR r)↔All r ls:=by
  unfold toldR All
  rw[List.mem_filter,mem_all,List.all_eq_true]
  refine and_congr_right fun _=>⟨fun h i hi=>?_,fun h i hi=>?_⟩
  · have:=h i (List.mem_range.2 hi)
    cases hw:waysR r i ls (everyR r) with
    |nil=>rw[hw] at this;cases this
    |cons w l=>
      have hm:w∈waysR r i ls (everyR r):=by rw[hw];simp
      exact ⟨_,_,way_tru hm (way_lo hm).1⟩
  · obtain ⟨p,h',ht⟩:=h i (List.mem_range.1 hi)
    obtain ⟨w,hw,_⟩:=tru_way ht
    cases he:waysR r i ls (everyR r) with
    |nil=>rw[he] at hw;cases hw
    |cons a b=>rfl
theorem can_iff (r:Road):canR r (everyR r)=true↔∃ ls,All r ls:=by
  unfold canR
  constructor
  · intro h
    cases ht:toldR r (everyR r) with
    |nil=>rw[ht] at h;cases h
    |cons a b=>exact ⟨a,(told_all r a).1 (by rw[ht];simp)⟩
  · rintro ⟨ls,h⟩
    have:=(told_all r ls).2 h
    cases ht:toldR r (everyR r) with
    |nil=>rw[ht] at this;cases this
    |cons a b=>rfl
theorem height_tru {r:Road}(hc:canR r (everyR r)=true){i:Nat}(hi:i<r.parts.length)(many:Nat):Hull (heightsR r i many) fun x=>∃ ls p h,All r ls∧Tru r ls i p h∧x=heightR r p h ls many:=by
  have H:=heights_hull hc hi many
  have e:∀ x,(∃ ls∈toldR r (everyR r),∃ w∈waysR r i ls (everyR r),∃ h,w.first.has h∧x=heightR r w.part h ls many)↔∃ ls p h,All r ls∧Tru r ls i p h∧x=heightR r p h ls many:=by
    intro x
    constructor
    · rintro ⟨ls,hl,w,hw,h,hh,rfl⟩
      exact ⟨ls,w.part,h,(told_all r ls).1 hl,way_tru hw hh,rfl⟩
    · rintro ⟨ls,p,h,hl,ht,rfl⟩
      obtain ⟨w,hw,rfl,hh⟩:=tru_way ht
      exact ⟨ls,(told_all r ls).2 hl,w,hw,h,hh,rfl⟩
  exact ⟨(e _).1 H.lo,(e _).1 H.hi,fun x hx=>H.all x ((e x).2 hx)⟩
theorem surely_iff (r:Road)(v:Nat):(surelyR r).testBit v=true↔v<r.events.length∧∀ ls,All r ls→∃ i,i<r.parts.length∧∀ p h,Tru r ls i p h→heightR r p h ls (v+1)<0:=by
  unfold surelyR
  rw[Clm.setOf_bit]
  simp only[Bool.and_eq_true,decide_eq_true_eq,List.all_eq_true,List.any_eq_true,List.mem_range]
  refine and_congr_right fun _=>⟨fun H ls hl=>?_,fun H ls hl=>?_⟩
  · obtain ⟨i,hi,h⟩:=H ls ((told_all r ls).2 hl)
    refine ⟨i,hi,fun p h' ht=>?_⟩
    obtain ⟨w,hw,rfl,hh⟩:=tru_way ht
    have h1:=h w hw
    have h2:heightR r w.part h' ls (v+1)≤heightR r w.part w.first.hi ls (v+1):=after_mono _ _ _ hh.2
    omega
  · obtain ⟨i,hi,h⟩:=H ls ((told_all r ls).1 hl)
    exact ⟨i,hi,fun w hw=>h _ _ (way_tru hw (way_lo hw).2)⟩
theorem perhaps_iff (r:Road)(v:Nat):(perhapsR r).testBit v=true↔v<r.events.length∧∃ ls,All r ls∧∃ i,i<r.parts.length∧∃ p h,Tru r ls i p h∧heightR r p h ls (v+1)<0:=by
  unfold perhapsR
  rw[Clm.setOf_bit]
  simp only[Bool.and_eq_true,decide_eq_true_eq,List.any_eq_true,List.mem_range]
  refine and_congr_right fun _=>⟨?_,?_⟩
  · rintro ⟨ls,hl,i,hi,w,hw,h⟩
    exact ⟨ls,(told_all r ls).1 hl,i,hi,w.part,w.first.lo,way_tru hw (way_lo hw).1,h⟩
  · rintro ⟨ls,hl,i,hi,p,h',ht,h⟩
    obtain ⟨w,hw,rfl,hh⟩:=tru_way ht
    have h2:heightR r w.part w.first.lo ls (v+1)≤heightR r w.part h' ls (v+1):=after_mono _ _ _ hh.1
    exact ⟨ls,(told_all r ls).2 hl,i,hi,w,hw,by omega⟩
theorem after_ls (p:Tr):∀ (es:List Evt) (ls m:List Int) (h:Int),es.length≤ls.length→after p es (ls++m) h=after p es ls h
  |[],_,_,_,_=>rfl
  |v::es,[],m,h,hl=>by simp at hl
  |v::es,x::ls,m,h,hl=>by
    show after p es (ls++m) (stepE v p h x)=after p es ls (stepE v p h x)
    exact after_ls p es ls m _ (by simpa using hl)
theorem tru_part {r:Road}(hr:Fine r){ls:List Int}{i:Nat}(hi:i<r.parts.length){p:Tr}{h:Int}(ht:Tru r ls i p h):1≤p.stiff∧p.stiff≤10∧0≤p.rise∧p.rise≤5∧0≤h∧h≤p.full∧p.full≤60:=by
  obtain ⟨a,b,c,d,e,f⟩:=tr_fine hr hi ht.1
  have hp:=hr.part _ (part_mem hi)
  have hh:=ht.2.1
  simp only[Sp.has] at hh
  omega
theorem lds_nn {r:Road}(hr:Fine r){ls:List Int}(hl:Lds r.events ls):∀ x∈ls,0≤x∧x≤60:=load_nn hr ((mem_all _ _).2 hl)
theorem height_full {r:Road}(hr:Fine r){ls:List Int}{i:Nat}(hi:i<r.parts.length){p:Tr}{h:Int}(hl:Lds r.events ls)(ht:Tru r ls i p h)(m:Nat):heightR r p h ls m≤p.full:=by
  obtain ⟨a,b,c,d,e,f,g⟩:=tru_part hr hi ht
  exact (afterI_eq a c _ _ _ f (days_ok hr m) fun x hx=>(lds_nn hr hl x hx).1).2
end Rd
end Go.Proofs.Ytlcjlcllbgjplaa

/- Chapter 05: a rest, a pass more: plain. -/
namespace Go.Proofs.Ytlcjlcllbgjplaa
open Go
namespace Rd
open Clm (Sp Hull spanL mem_span setOf)
def restE (n:Int):Evt:=⟨1,⟨0,0⟩,n,0,⟨0,0⟩⟩
def lookE (n a b:Int):Evt:=⟨2,⟨0,0⟩,0,n,⟨a,b⟩⟩
end Rd
end Go.Proofs.Ytlcjlcllbgjplaa

/- The code of functions of the laws, for the evaluator. Printed by program. -/
namespace Go.Proofs.Ytlcjlcllbgjplaa
open Go
namespace Ev
end Ev
end Go.Proofs.Ytlcjlcllbgjplaa

/- Chapter 05: small functions of the laws. -/
namespace Go.Proofs.Ytlcjlcllbgjplaa
open Go
namespace Ev
namespace Ro
open K
attribute [local simp] ev1 wantG spineK spine float xnew xval xeff val_tmA_cons val_tmA_nil val_val putT_some putT_none addFl cellsOf pickC alive slLen slFt binI maxA maxK minA minK aeqK aeqS AV.cells spA slCells_sl fillA setAt bitsI nat_nn nat_nn1 AV.plain apart
set_option maxRecDepth 100000
set_option maxHeartbeats 4000000
theorem long_fun (C:Cfg)(call:CallF)(r:Rd.Road)(H:List AB):Does (ev C call H.length none af22.body { tm:=tmA af22.ntmps (zipI 0 [.agg (roadCs r)] []),df:=[],hp:=H,tc:=[] })
    (Ends C H.length af22.res fun v _hp tc=>v=.bool (decide (max r.parts.length r.events.length > 40))∧tc=[]):=by
  have e:decide ((40:Int)<max (r.parts.length:Int) (r.events.length:Int))=decide (max r.parts.length r.events.length > 40):=by congr 1;simp;omega
  rw[← e]
  unfold af22
  simp only[zipI,roadCs]
  (repeat (first|(with_reducible apply ops_cons;(focus ((conv=>lhs;simp[*,Nat.testBit_eq_decide_div_mod_eq])<;>exact rfl));simp only[addFl])|((with_reducible first|apply does_seq|apply does_ops|apply does_draw|apply does_skip|apply does_block|apply does_ret|apply does_exit|apply ops_nil|(apply does_true;· simp[*,val_tmA_cons])|(apply does_false;· simp[*,val_tmA_cons]));try simp only[Then,Ops])|simp only[Nat.reduceEqDiff,reduceIte,OutB,Then]))
  exact ends_plain (v:=.bool (decide ((40:Int)<max (r.parts.length:Int) (r.events.length:Int)))) (.inl rfl) rfl (by simp) (by simp only[resL,resOf,tmA_getD_cons];simp[*,resV]) ⟨rfl,rfl⟩
theorem lspan_fun (C:Cfg)(call:CallF)(H:List AB)(a b:Int):Does (ev C call H.length none af12.body { tm:=tmA af12.ntmps (zipI 0 [.int .i64 a,.int .i64 b] []),df:=[],hp:=H,tc:=[] })
    (Ends C H.length af12.res fun v _hp tc=>v=.agg [.int .i64 a,.int .i64 b]∧tc=[]):=by
  unfold af12
  simp only[zipI]
  (repeat (first|(with_reducible apply ops_cons;(focus ((conv=>lhs;simp[*,Nat.testBit_eq_decide_div_mod_eq])<;>exact rfl));simp only[addFl])|((with_reducible first|apply does_seq|apply does_ops|apply does_draw|apply does_skip|apply does_block|apply does_ret|apply does_exit|apply ops_nil|(apply does_true;· simp[*,val_tmA_cons])|(apply does_false;· simp[*,val_tmA_cons]));try simp only[Then,Ops])|simp only[Nat.reduceEqDiff,reduceIte,OutB,Then]))
  exact ends_plain (v:=.agg [.int .i64 a,.int .i64 b]) (.inl rfl) rfl (by simp) (by simp only[resL,resOf,tmA_getD_cons];simp[*,pickC,resV]) ⟨rfl,by simp⟩
end Ro
end Ev
end Go.Proofs.Ytlcjlcllbgjplaa

/- What the laws of chapter 05 are told. -/
namespace Go.Proofs.Ytlcjlcllbgjplaa
open Go
namespace Ev
namespace Ro
open K
set_option maxRecDepth 100000
set_option maxHeartbeats 4000000
def i64n (n:Int):Prop:=-9223372036854775808≤n∧n≤9223372036854775807
structure LApi (call:CallF):Prop where
  height:∀ {H v r},roadOf H v=some r→∀ n m,i64n n→i64n m→call (.fn (.func 14) [] []) [v,.int .i64 n,.int .i64 m] H=some (.ret (spanRV r (Rd.isPart r n&&Rd.isEvent r m) (Rd.heightsR r n.toNat (m.toNat+1))),H,[])
  sinks:∀ {H v r},roadOf H v=some r→∀ n m,i64n n→i64n m→call (.fn (.func 15) [] []) [v,.int .i64 n,.int .i64 m] H=some (.ret (spanRV r (Rd.isPart r n&&Rd.isLoad m) (Rd.sinksR r n.toNat m)),H,[])
  bears:∀ {H v r},roadOf H v=some r→∀ n,i64n n→call (.fn (.func 16) [] []) [v,.int .i64 n] H=some (.ret (numRV r (Rd.isLoad n) (Rd.bearsR r n)),H,[])
  most:∀ {H v r},roadOf H v=some r→call (.fn (.func 19) [] []) [v] H=some (.ret (findRV r true (Rd.mostR r)),H,[])
  rest:∀ {H v r},roadOf H v=some r→∀ n,i64n n→call (.fn (.func 17) [] []) [v,.int .i64 n] H=some (.ret (findRV r (Rd.isLoad n) (Rd.restR r n)),H,[])
  below:∀ {H v r},roadOf H v=some r→call (.fn (.func 26) [] []) [v] H=some (.ret (belowRV r),H,[])
  weak:∀ {H v r},roadOf H v=some r→call (.fn (.func 34) [] []) [v] H=some (.ret (numRV r true (Rd.weakR r)),H,[])
  valid:∀ {H v r},roadOf H v=some r→call (.fn (.func 23) [] []) [v] H=some (.ret (.bool (Rd.valid r)),H,[])
  alive:∀ {H},call (.fn (.func 21) [] []) [] H=some (.ret (.bool true),H,[])
  long:∀ {H} (r:Rd.Road),call (.fn (.func 22) [] []) [.agg [.vs 7 (r.parts.map ptE),.vs 7 (r.events.map evE)]] H=some (.ret (.bool (decide (max r.parts.length r.events.length > 40))),H,[])
end Ro
end Ev
end Go.Proofs.Ytlcjlcllbgjplaa

/- The laws of chapter 05: their configuration. -/
namespace Go.Proofs.Ytlcjlcllbgjplaa
open Go Go.Proofs Go.RowKit
namespace Ev
namespace Ro
open K
set_option maxRecDepth 100000
set_option maxHeartbeats 4000000
structure KnowsR (C:Cfg):Prop where
  calm:C.calm=true
  rin:Has C 74 af74
  rspan:Has C 75 af75
  rpart:Has C 96 af96
  revent:Has C 76 af76
  rroad:Has C 23 af23
theorem knowsR:KnowsR cfgK where
  calm:=rfl
  rin:=has_of rfl rfl (by kernel_rfl) rfl
  rspan:=has_of rfl rfl (by kernel_rfl) rfl
  rpart:=has_of rfl rfl (by kernel_rfl) rfl
  revent:=has_of rfl rfl (by kernel_rfl) rfl
  rroad:=has_of rfl rfl (by kernel_rfl) rfl
theorem validL (r:Rd.Road)(hp:r.parts.length≤40)(he:r.events.length≤50):Ev.call cfgK 4 (.fn (.func 23) [] []) [.agg (roadCs r)] []=some (.ret (.bool (Rd.valid r)),[],[]):=by
  have k:=knowsR
  have h1:∀ n,RinC (Ev.call cfgK (n+1)):=fun n H a b c=>bare_call2 k.calm k.rin (le' rfl) rfl (rin_fun cfgK _ H a b c)
  have h2:∀ n,RspanC (Ev.call cfgK (n+1)):=fun n H s a b w q1 q2=>bare_call2 k.calm k.rspan (le' rfl) rfl (rspan_fun cfgK _ H s a b w q1 q2)
  have h3:∀ n,RpartC (Ev.call cfgK (n+2)) r:=fun n H m=>bare_call2 k.calm k.rpart (le' rfl) rfl (rpart_fun cfgK _ (h1 n) r (by omega) H m)
  have h4:∀ n,ReventC (Ev.call cfgK (n+3)) r:=fun n H v=>bare_call2 k.calm k.revent (le' rfl) rfl (revent_fun cfgK _ r (h1 (n+1)) (h3 n) (h2 (n+1)) H v)
  exact bare_call2 k.calm k.rroad (le' rfl) rfl (rroad_fun cfgK k.calm _ r ⟨by omega,by omega⟩ (h1 2) (h2 2) (h4 0) [])
def sValid (r:Rd.Road):List Int→Option AV|[]=>some (.bool (Rd.valid r))|_=>none
def gAlive (args:List AV)(_:List AB):Option AV:=match args with|[]=>some (.bool true)|_=>none
noncomputable def exthL (f:Nat):Option (List AV→List AB→Option AV):=if f=23 then some (gRd sValid) else if f=21 then some gAlive else exthL0 f
noncomputable def cfgL (t:FT):Cfg where
  fns:=FT.find t
  glob:=fun _=>none
  dfk:=fun _=>none
  ext:=fun _=>none
  exth:=exthL
  calm:=true
  whole:=fun _=>true
def IsTree (t : FT) : Prop := FT.All (fun k af => ∃ F, Try.prog.funcs[k]? = some F ∧ (F.name == "runtime.NumGoroutine")=false∧compFn Try.prog F=some af.strip) t
theorem tblL {t:FT}(ht:IsTree t):TblOk Try.prog (cfgL t):=by
  refine ⟨fun f fn h=>FT.find_all ht h,fun _ _ h=>(by cases h),fun f g h=>?_,fun _ _ _ h=>(by cases h)⟩
  have h':exthL f=some g:=h
  unfold exthL at h'
  split at h'
  · rename_i hf;subst hf;cases h'
    obtain ⟨F,f1,f2,f3⟩:=is23
    obtain ⟨k1,k2⟩:=grd_ok (spec:=sValid) ⟨F,f1,f2,_,f3⟩ fun r ns v b1 b2 hr hs=>by
      unfold sValid at hs
      split at hs<;>cases hs
      exact ⟨trivial,cfgK,tblK,fun _ _=>globs_all _ _ _,4,_,_,validL r b1 b2⟩
    exact ⟨k1,fun args H v rargs W L μ a b c _=>k2 args H v rargs W L μ a b c⟩
  split at h'
  · rename_i hf;subst hf;cases h'
    obtain ⟨F,f1,f2,f3⟩:=is21
    refine ⟨known _ ⟨F,f1,f2,_,f3⟩,fun args H v rargs W L μ hv hr hs hG=>?_⟩
    unfold gAlive at hv
    split at hv
    · cases hv
      have:rargs=#[]:=Array.ext' (List.eq_nil_of_length_eq_zero (by have:=hr.1;simpa using this.symm))
      subst this
      exact (alive_told W).mono fun e W' ⟨h1,h2⟩=>⟨⟨_,h1,.bool⟩,h2⟩
    · cases hv
  · obtain ⟨k1,k2⟩:=exth0_ok f g h'
    exact ⟨k1,fun args H v rargs W L μ a b c d=>k2 args H v rargs W L μ a b c (globs_all _ _ _)⟩
theorem exth_call {t:FT}{f:Nat}{spec:Rd.Road→List Int→Option AV}(h:exthL f=some (gRd spec))(n:Nat){H:List AB}{v:AV}{c:Rd.Road}(hc:roadOf H v=some c)(ns:List Int)(hn:∀ n∈ns,i64n n){w:AV}(hs:spec c ns=some w):Ev.call (cfgL t) (n+1) (.fn (.func f) [] []) (v::ns.map (AV.int .i64)) H=some (.ret w,H,[]):=by
  show enter (cfgL t) (Ev.call (cfgL t) n) f ([]++(v::ns.map (AV.int .i64))++[]) H=_
  unfold enter
  have h1:(cfgL t).ext f=none:=rfl
  have h2:(cfgL t).exth f=some (gRd spec):=h
  rw[h1,h2]
  have hi:∀ ns:List Int,(∀ n∈ns,i64n n)→intsOf (ns.map (AV.int .i64))=some ns:=by
    intro ns
    induction ns with
    |nil=>intro _;rfl
    |cons a l ih=>
      intro h
      have h1:=h a (by simp)
      have h2:=ih fun n hn=>h n (by simp[hn])
      unfold i64n at h1
      simp[intsOf,h2,h1]
  have h3:gRd spec ([]++(v::ns.map (AV.int .i64))++[]) H=some w:=by
    simp[gRd,hc,hi ns hn,hs]
  simp only[h3,Option.map_some]
theorem lapi {t:FT}(hl:Has (cfgL t) 22 af22)(n:Nat):LApi (Ev.call (cfgL t) (n+1)) where
  height hc a b ha hb:=exth_call (spec:=sHeight) rfl n hc [a,b] (by simp[ha,hb]) rfl
  sinks hc a b ha hb:=exth_call (spec:=sSinks) rfl n hc [a,b] (by simp[ha,hb]) rfl
  bears hc a ha:=exth_call (spec:=sBears) rfl n hc [a] (by simp[ha]) rfl
  most hc:=exth_call (spec:=sMost) rfl n hc [] (by simp) rfl
  rest hc a ha:=exth_call (spec:=sRest) rfl n hc [a] (by simp[ha]) rfl
  below hc:=exth_call (spec:=sBelow) rfl n hc [] (by simp) rfl
  weak hc:=exth_call (spec:=sWeak) rfl n hc [] (by simp) rfl
  valid hc:=exth_call (spec:=sValid) rfl n hc [] (by simp) rfl
  alive {H}:=by
    show enter (cfgL t) (Ev.call (cfgL t) n) 21 ([]++[]++[]) H=some (.ret (.bool true),H,[])
    unfold enter
    have h1:(cfgL t).ext 21=none:=rfl
    have h2:(cfgL t).exth 21=some gAlive:=rfl
    rw[h1,h2];rfl
  long {H} r:=bare_call2 rfl hl (le' rfl) rfl (long_fun (cfgL t) _ r H)
end Ro
end Ev
end Go.Proofs.Ytlcjlcllbgjplaa

/- An argument that is a road: from its reading to the evaluator's value. -/
namespace Go.Proofs.Ytlcjlcllbgjplaa
open Go Go.Proofs Go.RowKit Go.ChangeShapes Go.WideShapes Go.Deep
namespace Ev
namespace Ro
open K
section
variable {H:Type} {enc:TypeId × Value→H} {w:World} {base:Nat} {spare:Nat→Bool} {held:Bool} {fuel:Nat} {cs:List Value}
theorem list2 {cs:List Value}(h:cs.length=2):∃ a b,cs=[a,b]:=by
  match cs,h with|[a,b],_=>exact ⟨a,b,rfl⟩
theorem list7 {cs:List Value}(h:cs.length=7):∃ a b c d e f g,cs=[a,b,c,d,e,f,g]:=by
  match cs,h with|[a,b,c,d,e,f,g],_=>exact ⟨a,b,c,d,e,f,g,rfl⟩
theorem cells_int:Try.prog.cellsOf 3=1:=by kernel_rfl
theorem cells_span:Try.prog.cellsOf 28=2:=by kernel_rfl
theorem cells_part:Try.prog.cellsOf 56=7:=by kernel_rfl
theorem cells_event:Try.prog.cellsOf 60=7:=by kernel_rfl
theorem cells_road:Try.prog.cellsOf 25=2:=by kernel_rfl
theorem cells_parts:Try.prog.cellsOf 22=1:=by kernel_rfl
theorem cells_events:Try.prog.cellsOf 23=1:=by kernel_rfl
theorem trod_i (h:∃ y,DataW.trod enc Try.prog w base spare held fuel 3 cs=some y):∃ n,cs=[.int .i64 n]:=by
  obtain ⟨y,h⟩:=h
  obtain ⟨n,h1,_,h2⟩:=DataW.trod_int Try.underlying3 h
  exact ⟨n,h1⟩
theorem trod_span (h:∃ y,DataW.trod enc Try.prog w base spare held fuel 28 cs=some y):∃ a b,cs=[.int .i64 a,.int .i64 b]:=by
  obtain ⟨y,h⟩:=h
  obtain ⟨xs,n,rfl,_,hl,hx,hf⟩:=DataW.trod_struct Try.underlying28 h
  rw[cells_span] at hl
  have hx:xs.length=2:=hx
  obtain ⟨c0,c1,rfl⟩:=list2 hl
  clear hl
  obtain ⟨a,ha⟩:=trod_i ⟨_,(hf 0 _ rfl).trans (List.getElem?_eq_getElem (by omega))⟩
  obtain ⟨b,hb⟩:=trod_i ⟨_,(hf 1 _ rfl).trans (List.getElem?_eq_getElem (by omega))⟩
  simp[cells_int] at ha hb
  exact ⟨a,b,by rw[ha,hb]⟩
def ptR (p:Rd.Pt):List Value:=[.int .i64 p.height.lo,.int .i64 p.height.hi,.int .i64 p.stiff.lo,.int .i64 p.stiff.hi,.int .i64 p.rise.lo,.int .i64 p.rise.hi,.int .i64 p.full]
def evR (v:Rd.Evt):List Value:=[.int .i64 v.kind,.int .i64 v.load.lo,.int .i64 v.load.hi,.int .i64 v.days,.int .i64 v.part,.int .i64 v.shows.lo,.int .i64 v.shows.hi]
theorem trod_part (h:∃ y,DataW.trod enc Try.prog w base spare held fuel 56 cs=some y):∃ p,cs=ptR p:=by
  obtain ⟨y,h⟩:=h
  obtain ⟨xs,n,rfl,_,hl,hx,hf⟩:=DataW.trod_struct Try.underlying56 h
  rw[cells_part] at hl
  have hx:xs.length=4:=hx
  obtain ⟨c0,c1,c2,c3,c4,c5,c6,rfl⟩:=list7 hl
  clear hl
  obtain ⟨a,b,hab⟩:=trod_span ⟨_,(hf 0 _ rfl).trans (List.getElem?_eq_getElem (by omega))⟩
  obtain ⟨d,e,hde⟩:=trod_span ⟨_,(hf 1 _ rfl).trans (List.getElem?_eq_getElem (by omega))⟩
  obtain ⟨f,g,hfg⟩:=trod_span ⟨_,(hf 2 _ rfl).trans (List.getElem?_eq_getElem (by omega))⟩
  obtain ⟨i,hi⟩:=trod_i ⟨_,(hf 3 _ rfl).trans (List.getElem?_eq_getElem (by omega))⟩
  simp[cells_span,cells_int] at hab hde hfg hi
  exact ⟨⟨⟨a,b⟩,⟨d,e⟩,⟨f,g⟩,i⟩,by rw[hab.1,hab.2,hde.1,hde.2,hfg.1,hfg.2,hi];rfl⟩
theorem trod_event (h:∃ y,DataW.trod enc Try.prog w base spare held fuel 60 cs=some y):∃ p,cs=evR p:=by
  obtain ⟨y,h⟩:=h
  obtain ⟨xs,n,rfl,_,hl,hx,hf⟩:=DataW.trod_struct Try.underlying60 h
  rw[cells_event] at hl
  have hx:xs.length=5:=hx
  obtain ⟨c0,c1,c2,c3,c4,c5,c6,rfl⟩:=list7 hl
  clear hl
  obtain ⟨a,ha⟩:=trod_i ⟨_,(hf 0 _ rfl).trans (List.getElem?_eq_getElem (by omega))⟩
  obtain ⟨d,e,hde⟩:=trod_span ⟨_,(hf 1 _ rfl).trans (List.getElem?_eq_getElem (by omega))⟩
  obtain ⟨b,hb⟩:=trod_i ⟨_,(hf 2 _ rfl).trans (List.getElem?_eq_getElem (by omega))⟩
  obtain ⟨i,hi⟩:=trod_i ⟨_,(hf 3 _ rfl).trans (List.getElem?_eq_getElem (by omega))⟩
  obtain ⟨f,g,hfg⟩:=trod_span ⟨_,(hf 4 _ rfl).trans (List.getElem?_eq_getElem (by omega))⟩
  simp[cells_span,cells_int] at ha hde hb hi hfg
  exact ⟨⟨a,⟨d,e⟩,b,i,⟨f,g⟩⟩,by rw[ha,hde.1,hde.2,hb,hi,hfg.1,hfg.2];rfl⟩
theorem row_vr {α:Type}{t e:TypeId}{k:Nat}(d:α)(g:α→List Value)(G:α→AV)(hk:0<k)(hg:∀ y,(g y).length=k)(hG:∀ y,(G y).cells.length=k)(hv:∀ (y:α) (j:Nat) (x:AV) (r:Value),(G y).cells[j]?=some x→(g y)[j]?=some r→VR w (fun _=>False) nomu x r)
    (ht:Try.prog.underlying t=some (.slice e)) (hc:Try.prog.cellsOf e=k)
    (he:∀ (fuel:Nat) (cs:List Value),(∃ y,DataW.trod enc Try.prog w base spare held fuel e cs=some y)→∃ y,cs=g y)
    (h:∃ y,DataW.trod enc Try.prog w base spare held fuel t cs=some y):
    ∃ (l:List α) (x:Value),cs=[x]∧VR w (fun _=>False) nomu (.vs k (l.map G)) x:=by
  obtain ⟨y,h⟩:=h
  rcases open_slice ht h with ⟨rfl,_⟩|⟨a,len,cap,m,n,D,Pl,rfl,hb,hl,hm,hmm,hx,hi⟩
  · exact ⟨[],_,rfl,.vs0⟩
  · have hml:len≤m:=by rw[hmm];split<;>omega
    have:∀ i,∃ y:α,i<len→∀ j,j<k→∃ r,(g y)[j]?=some r∧w.cell? (a.add (i * k+j))=some r:=by
      intro i
      by_cases hlt:i<len
      · obtain ⟨cs',h1,h2⟩:=hi i (by omega)
        obtain ⟨y,rfl⟩:=he n cs' ⟨_,h2⟩
        rw[hc] at h1
        obtain ⟨_,_,h3⟩:=World.cells?_some h1
        refine ⟨y,fun _ j hj=>⟨(g y)[j]'(by rw[hg];exact hj),List.getElem?_eq_getElem _,?_⟩⟩
        rw[← Go.Deep.add_add,h3 j hj,List.getElem?_eq_getElem (by rw[hg];exact hj)]
      · exact ⟨d,fun h=>absurd h hlt⟩
    obtain ⟨f,hf⟩:=Classical.skolem.1 this
    refine ⟨(List.range len).map f,_,rfl,?_⟩
    by_cases h0:len=0
    · subst h0;exact .vs0
    · obtain ⟨r0,_,h00⟩:=hf 0 (by omega) 0 hk
      have hs:=World.cell?_spot h00
      obtain ⟨b,off,sp⟩:=a
      obtain rfl:sp=none:=by simpa [Addr.add] using hs
      have hadd:∀ u,Addr.add ⟨b,off,none⟩ u=⟨b,off+u,none⟩:=fun u=>by simp[Addr.add]
      have hlen:(((List.range len).map f).map G).length=len:=by simp
      have hat:∀ (i:Nat) (e:AV),(((List.range len).map f).map G)[i]?=some e→i<len∧e=G (f i):=by
        intro i e h
        have hi:i<len:=by have:=(List.getElem?_eq_some_iff.1 h).1;simpa using this
        simp[hi] at h
        exact ⟨hi,h.symm⟩
      have key:VR w (fun _=>False) nomu (.vs k (((List.range len).map f).map G)) (.slice (some ⟨b,off,none⟩) (((List.range len).map f).map G).length cap):=by
        refine .vs (fun i j=>(g (f i)).getD j .nilFunc) (by rw[hlen];exact hl) (fun i e h=>?_) (fun i e j x h hx=>⟨id,?_⟩) (fun i e j x h hx=>?_)
        · obtain ⟨_,rfl⟩:=hat i e h;exact hG _
        · obtain ⟨hi,rfl⟩:=hat i e h
          have hj:j<k:=by have:=(List.getElem?_eq_some_iff.1 hx).1;rwa [hG] at this
          obtain ⟨r,h1,h2⟩:=hf i hi j hj
          rw[hadd,← Nat.add_assoc] at h2
          rw[h2,List.getD_eq_getElem?_getD,h1];rfl
        · obtain ⟨hi,rfl⟩:=hat i e h
          have hj:j<k:=by have:=(List.getElem?_eq_some_iff.1 hx).1;rwa [hG] at this
          obtain ⟨r,h1,h2⟩:=hf i hi j hj
          rw[List.getD_eq_getElem?_getD,h1]
          exact hv _ j x r hx h1
      rw[hlen] at key
      exact key
theorem vr_cells {l:List AV}{m:List Value}(h:∀ (j:Nat) (x:AV) (r:Value),l[j]?=some x→m[j]?=some r→∃ n,x=.int .i64 n∧r=.int .i64 n)(j:Nat)(x:AV)(r:Value)(h1:l[j]?=some x)(h2:m[j]?=some r):VR w (fun _=>False) nomu x r:=by
  obtain ⟨n,rfl,rfl⟩:=h j x r h1 h2;exact .int
theorem trod_parts (h:∃ y,DataW.trod enc Try.prog w base spare held fuel 22 cs=some y):∃ (l:List Rd.Pt) (x:Value),cs=[x]∧VR w (fun _=>False) nomu (.vs 7 (l.map ptE)) x:=
  row_vr (k := 7) default ptR ptE (by decide) (fun _ => rfl) (fun _ => rfl) (fun y => vr_cells fun j x r h1 h2 => by
    match j,h1,h2 with
    |0,h1,h2=>cases h1;cases h2;exact ⟨_,rfl,rfl⟩
    |1,h1,h2=>cases h1;cases h2;exact ⟨_,rfl,rfl⟩
    |2,h1,h2=>cases h1;cases h2;exact ⟨_,rfl,rfl⟩
    |3,h1,h2=>cases h1;cases h2;exact ⟨_,rfl,rfl⟩
    |4,h1,h2=>cases h1;cases h2;exact ⟨_,rfl,rfl⟩
    |5,h1,h2=>cases h1;cases h2;exact ⟨_,rfl,rfl⟩
    |6,h1,h2=>cases h1;cases h2;exact ⟨_,rfl,rfl⟩
    |j+7,h1,h2=>simp[ptR] at h2) Try.underlying22 cells_part (fun _ _ h=>trod_part h) h
theorem trod_events (h:∃ y,DataW.trod enc Try.prog w base spare held fuel 23 cs=some y):∃ (l:List Rd.Evt) (x:Value),cs=[x]∧VR w (fun _=>False) nomu (.vs 7 (l.map evE)) x:=
  row_vr (k := 7) default evR evE (by decide) (fun _ => rfl) (fun _ => rfl) (fun y => vr_cells fun j x r h1 h2 => by
    match j,h1,h2 with
    |0,h1,h2=>cases h1;cases h2;exact ⟨_,rfl,rfl⟩
    |1,h1,h2=>cases h1;cases h2;exact ⟨_,rfl,rfl⟩
    |2,h1,h2=>cases h1;cases h2;exact ⟨_,rfl,rfl⟩
    |3,h1,h2=>cases h1;cases h2;exact ⟨_,rfl,rfl⟩
    |4,h1,h2=>cases h1;cases h2;exact ⟨_,rfl,rfl⟩
    |5,h1,h2=>cases h1;cases h2;exact ⟨_,rfl,rfl⟩
    |6,h1,h2=>cases h1;cases h2;exact ⟨_,rfl,rfl⟩
    |j+7,h1,h2=>simp[evR] at h2) Try.underlying23 cells_event (fun _ _ h=>trod_event h) h
theorem trod_road (h:∃ y,DataW.trod enc Try.prog w base spare held fuel 25 cs=some y):∃ r:Rd.Road,VR w (fun _=>False) nomu (.agg (roadCs r)) (.agg cs.toArray):=by
  obtain ⟨y,h⟩:=h
  obtain ⟨xs,n,rfl,_,hl,hx,hf⟩:=DataW.trod_struct Try.underlying25 h
  rw[cells_road] at hl
  have hx:xs.length=2:=hx
  obtain ⟨c0,c1,rfl⟩:=list2 hl
  clear hl
  obtain ⟨ps,x,hp,hvp⟩:=trod_parts ⟨_,(hf 0 _ rfl).trans (List.getElem?_eq_getElem (by omega))⟩
  obtain ⟨es,z,he,hve⟩:=trod_events ⟨_,(hf 1 _ rfl).trans (List.getElem?_eq_getElem (by omega))⟩
  simp[cells_parts,cells_events] at hp he
  rw[hp,he]
  refine ⟨⟨ps,es⟩,.agg rfl fun i v r h1 h2=>?_⟩
  match i,h1,h2 with
  |0,h1,h2=>cases h1;cases h2;exact hvp
  |1,h1,h2=>cases h1;cases h2;exact hve
  |i+2,h1,h2=>simp at h2
end
end Ro
end Ev
end Go.Proofs.Ytlcjlcllbgjplaa

/- What the rows of chapter 05 share. -/
namespace Go.Proofs.Ytlcjlcllbgjplaa
open Go Go.Proofs Go.ChangeShapes Go.WideShapes Go.ChangeAt Go.RowKit
namespace Ev
namespace Ro
open K
theorem bool_of {w:Value}{b:Bool}(h:∀ W L μ,VR W L μ (.bool b) w)(W:World):w=.bool b:=by
  have:=h W (fun _=>False) nomu
  cases this with
  |dead h1=>cases h1
  |bool=>rfl
end Ro
end Ev
set_option maxRecDepth 100000 in
theorem own_godebug:ownKnob Try.prog.godebug=none:=by kernel_rfl
set_option maxRecDepth 100000 in
theorem laidOut':laidOutB Try.prog=true:=by kernel_rfl
def noRoad:Value:=.agg #[.slice none 0 0,.slice none 0 0]
set_option maxRecDepth 100000 in
theorem open_road {H:Type}{enc:TypeId × Value→H}{W:World}{v:Value}{d:DataW H}{p:List MemPlace}{base:Nat}
    (hv:Value.okWide Try.prog W .any base 25 v) (h:DataW.Trod enc Try.prog W 0 (fun _=>true) true 25 v d p):∃ r:Rd.Road,Ev.VR W (fun _=>False) Ev.nomu (.agg (Ev.Ro.roadCs r)) v:=by
  obtain ⟨cs,rfl,_⟩:=okWide_struct Try.underlying25 hv
  obtain ⟨fuel,hf⟩:=h
  obtain ⟨c,hc⟩:=Ev.Ro.trod_road (cs:=cs.toList) ⟨_,hf⟩
  exact ⟨c,by simpa using hc⟩
theorem bounds_u8 {n:Int}(h:(Lit.int .u8 n).wf=true):0≤n∧n≤255:=by
  simp[Lit.wf,IntKind.min,IntKind.max,IntKind.signed,IntKind.bits] at h
  omega
end Go.Proofs.Ytlcjlcllbgjplaa
