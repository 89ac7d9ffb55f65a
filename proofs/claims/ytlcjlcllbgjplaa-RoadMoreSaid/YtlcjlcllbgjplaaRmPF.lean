/- What the rows of chapter 05 share. -/
import Derived.Test.YtlcjlcllbgjplaaRmPE
import Derived.Test.YtlcjlcllbgjplaaRmED
import Derived.Test.YtlcjlcllbgjplaaRmPB
import Derived.Test.YtlcjlcllbgjplaaRmEA
import Derived.Test.YtlcjlcllbgjplaaRows
import Derived.WalkKit
import Derived.ProofKit
import Derived.OpenShut
import Derived.KernelRfl
import Derived.Deep.Slices
import Derived.Deep.Fields
import Derived.ChangeSame
/- Package road, told to its laws. -/
namespace Go.Proofs.Ytlcjlcllbgjplaa
open Go Go.Proofs Go.RowKit
namespace Ev
namespace Ro
open K
set_option maxRecDepth 100000
set_option maxHeartbeats 4000000
theorem has_of {C:Cfg}{f:Nat}{af:AFunc}(h1:C.ext f=none)(h2:C.exth f=none)(h3:C.fns f=some af)(h4:C.whole f=true):Has C f af:=⟨h1,h2,h3,h4⟩
theorem zrb {n:Int}(h0:-1000000000≤n)(h1:n≤1000000000):Q.fits .i64 n=true:=by
  cases n with
  |ofNat m=>
    have h:m≤9223372036854775807:=by simp only[Int.ofNat_eq_natCast] at h1;omega
    exact Nat.ble_eq_true_of_le h
  |negSucc m=>
    have h:Nat.succ m≤9223372036854775808:=by omega
    exact Nat.ble_eq_true_of_le h
theorem rest_k (n:Nat)(H:List AB)(d:Int)(p:Rd.Tr)(hp:TrOk p)(h l:Int)(h0:-1000000≤h)(h1:h≤1000000)(d0:0≤d)(d1:d≤1000):Ev.call cfgK (n+1) (.fn (.func 127) [] []) [.agg [.int .i64 d],.agg [.int .i64 p.stiff,.int .i64 p.rise,.int .i64 p.full],.int .i64 h,.int .i64 l] H=some (.ret (.int .i64 (Rd.rested p h d)),H,[]):=by
  show enter cfgK (Ev.call cfgK n) 127 ([]++[.agg [.int .i64 d],.agg [.int .i64 p.stiff,.int .i64 p.rise,.int .i64 p.full],.int .i64 h,.int .i64 l]++[]) H=_
  unfold enter
  have e1:cfgK.ext 127=some restG:=rfl
  rw[e1]
  have hm0:0≤d * p.rise:=Int.mul_nonneg d0 hp.r1
  have hm1:d * p.rise≤5000:=by
    have:=Int.mul_le_mul d1 hp.r2 hp.r1 (by decide)
    omega
  have e2:restG ([]++[.agg [.int .i64 d],.agg [.int .i64 p.stiff,.int .i64 p.rise,.int .i64 p.full],.int .i64 h,.int .i64 l]++[])=some (.int .i64 (Rd.rested p h d)):=by
    show restV d p.rise p.full h=_
    unfold restV
    rw[Q.addI_eq,zrb (by omega) (by omega),zrb (by omega) (by omega)]
    show some (AV.int .i64 (Bool.rec (h+d * p.rise) p.full (Q.leI p.full (h+d * p.rise))))=_
    rw[Q.leI_eq]
    unfold Rd.rested
    by_cases hle:p.full≤h+d * p.rise
    · rw[decide_eq_true hle,Int.min_eq_left hle]
    · rw[decide_eq_false hle,Int.min_eq_right (by omega)]
  simp only[e2,Option.map_some]
theorem knowsK:Knows cfgK where
  calm:=rfl
  wh:=fun _=>rfl
  within:=has_of rfl rfl (by kernel_rfl) rfl
  isLoad:=has_of rfl rfl (by kernel_rfl) rfl
  always:=has_of rfl rfl (by kernel_rfl) rfl
  isPart:=has_of rfl rfl (by kernel_rfl) rfl
  isEvent:=has_of rfl rfl (by kernel_rfl) rfl
  every:=has_of rfl rfl (by kernel_rfl) rfl
  isSpan:=has_of rfl rfl (by kernel_rfl) rfl
  must:=has_of rfl rfl (by kernel_rfl) rfl
  sunk:=has_of rfl rfl (by kernel_rfl) rfl
  rested:=has_of rfl rfl (by kernel_rfl) rfl
  look:=has_of rfl rfl (by kernel_rfl) rfl
  pass:=has_of rfl rfl (by kernel_rfl) rfl
  rest:=rest_k
  height:=has_of rfl rfl (by kernel_rfl) rfl
  first:=has_of rfl rfl (by kernel_rfl) rfl
  parts:=has_of rfl rfl (by kernel_rfl) rfl
  parts1:=has_of rfl rfl (by kernel_rfl) rfl
  ways:=has_of rfl rfl (by kernel_rfl) rfl
  all:=has_of rfl rfl (by kernel_rfl) rfl
  all1:=has_of rfl rfl (by kernel_rfl) rfl
  all11:=has_of rfl rfl (by kernel_rfl) rfl
  told:=has_of rfl rfl (by kernel_rfl) rfl
  told1:=has_of rfl rfl (by kernel_rfl) rfl
  can:=has_of rfl rfl (by kernel_rfl) rfl
  known:=has_of rfl rfl (by kernel_rfl) rfl
  joined:=has_of rfl rfl (by kernel_rfl) rfl
  span:=has_of rfl rfl (by kernel_rfl) rfl
  heights:=has_of rfl rfl (by kernel_rfl) rfl
  heights1:=has_of rfl rfl (by kernel_rfl) rfl
  left:=has_of rfl rfl (by kernel_rfl) rfl
  index:=has_of rfl rfl (by kernel_rfl) rfl
  cont:=has_of rfl rfl (by kernel_rfl) rfl
  sure:=has_of rfl rfl (by kernel_rfl) rfl
  sure1:=has_of rfl rfl (by kernel_rfl) rfl
  may:=has_of rfl rfl (by kernel_rfl) rfl
  may1:=has_of rfl rfl (by kernel_rfl) rfl
  open_ := has_of rfl rfl (by kernel_rfl) rfl
  count:=has_of rfl rfl (by kernel_rfl) rfl
  count1:=has_of rfl rfl (by kernel_rfl) rfl
  firstN:=has_of rfl rfl (by kernel_rfl) rfl
  height2:=has_of rfl rfl (by kernel_rfl) rfl
  sinks2:=has_of rfl rfl (by kernel_rfl) rfl
  sinks3:=has_of rfl rfl (by kernel_rfl) rfl
  bears2:=has_of rfl rfl (by kernel_rfl) rfl
  rest2:=has_of rfl rfl (by kernel_rfl) rfl
  rest3:=has_of rfl rfl (by kernel_rfl) rfl
  most2:=has_of rfl rfl (by kernel_rfl) rfl
  eHeight:=has_of rfl rfl (by kernel_rfl) rfl
  eSinks:=has_of rfl rfl (by kernel_rfl) rfl
  eBears:=has_of rfl rfl (by kernel_rfl) rfl
  eMost:=has_of rfl rfl (by kernel_rfl) rfl
  eRest:=has_of rfl rfl (by kernel_rfl) rfl
  eBelow:=has_of rfl rfl (by kernel_rfl) rfl
  eWeak:=has_of rfl rfl (by kernel_rfl) rfl
  dfHeight:=rfl
  dfSinks:=rfl
  dfBears:=rfl
  dfMost:=rfl
  dfRest:=rfl
  dfBelow:=rfl
  dfWeak:=rfl
def intsOf:List AV→Option (List Int)
  |[]=>some []
  |.int .i64 n::l=>if -9223372036854775808≤n∧n≤9223372036854775807 then (intsOf l).map (n::·) else none
  |_=>none
theorem znn:∀ {l:List AV} {ns:List Int},intsOf l=some ns→l=ns.map (AV.int .i64)∧∀ n∈ns,-9223372036854775808≤n∧n≤9223372036854775807
  |[],ns,h=>by cases h;exact ⟨rfl,by simp⟩
  |v::l,ns,h=>by
    unfold intsOf at h
    split at h
    · rename_i e;cases e
    · rename_i n l' e
      obtain ⟨rfl,rfl⟩:=List.cons.inj e
      split at h
      · rename_i hb
        obtain ⟨ms,h1,rfl⟩:=Option.map_eq_some_iff.1 h
        obtain ⟨h2,h3⟩:=znn h1
        refine ⟨by rw[List.map_cons,← h2],fun m hm=>?_⟩
        rcases List.mem_cons.1 hm with rfl|hm
        · exact hb
        · exact h3 m hm
      · cases h
    · cases h
def gRd (spec:Rd.Road→List Int→Option AV)(args:List AV)(H:List AB):Option AV:=
  match args with
  |v::rest=>(roadOf H v).bind fun r=>(intsOf rest).bind fun ns=>spec r ns
  |[]=>none
theorem rd_arg {W:World}{L:Nat→Prop}{μ:Mu}{H:List AB}(hs:Sim Try.prog W L μ H){v:AV}{x:Value}{r:Rd.Road}(hc:roadOf H v=some r)(hv:VR W L μ v x):VR W (fun _=>False) nomu (.agg (roadCs r)) x:=by
  obtain ⟨pv,ev,rfl,h1,h2,_,_⟩:=zka hc
  cases hv with
  |dead h=>simp[headRef] at h
  |@agg _ _ rs hl hr=>
    match rs,hl with
    |[r0,r1],_=>
      have a0:=hr 0 _ _ rfl rfl
      have a1:=hr 1 _ _ rfl rfl
      refine .agg rfl fun i x r hx hr'=>?_
      match i,hx,hr' with
      |0,hx,hr'=>
        cases hx;cases hr'
        refine znj hs (by decide) a0 (fun i e he=>?_) (fun e he y hy=>?_) (by rw[zrk];exact h1)
        · rw[List.getElem?_map] at he
          obtain ⟨p,_,rfl⟩:=Option.map_eq_some_iff.1 he
          rfl
        · obtain ⟨p,_,rfl⟩:=List.mem_map.1 he
          simp only[ptE,AV.cells,List.mem_cons,List.not_mem_nil,or_false] at hy
          rcases hy with rfl|rfl|rfl|rfl|rfl|rfl|rfl<;>exact ⟨_,_,rfl⟩
      |1,hx,hr'=>
        cases hx;cases hr'
        refine znj hs (by decide) a1 (fun i e he=>?_) (fun e he y hy=>?_) (by rw[zrl];exact h2)
        · rw[List.getElem?_map] at he
          obtain ⟨p,_,rfl⟩:=Option.map_eq_some_iff.1 he
          rfl
        · obtain ⟨p,_,rfl⟩:=List.mem_map.1 he
          simp only[evE,AV.cells,List.mem_cons,List.not_mem_nil,or_false] at hy
          rcases hy with rfl|rfl|rfl|rfl|rfl|rfl|rfl<;>exact ⟨_,_,rfl⟩
      |i+2,hx,hr'=>simp[roadCs] at hx
theorem grd_ok {spec : Rd.Road → List Int → Option AV} {f : Nat} (hk : ∃ F, Try.prog.funcs[f]? = some F ∧ (F.name == "runtime.NumGoroutine")=false∧∃ af:AFunc,compFn Try.prog F=some af.strip)
    (hf:∀ (r:Rd.Road) (ns:List Int) (v:AV),r.parts.length≤40→r.events.length≤50→(∀ n∈ns,-9223372036854775808≤n∧n≤9223372036854775807)→spec r ns=some v→Bare v∧∃ C:Cfg,TblOk Try.prog C∧(∀ W L,Globs C W L)∧∃ m H' tc,Ev.call C m (.fn (.func f) [] []) (.agg (roadCs r)::ns.map (AV.int .i64)) []=some (.ret v,H',tc)):
    (∃ F, Try.prog.funcs[f]? = some F ∧ (F.name == "runtime.NumGoroutine")=false∧F.body.isNone=false)∧∀ (args:List AV) (H:List AB) (v:AV) (rargs:Array Value) (W:World) (L:Nat→Prop) (μ:Mu),gRd spec args H=some v→VL W L μ args rargs.toList→Sim Try.prog W L μ H →
      CallsIn Fence.wide 0 Try.prog f rargs W fun e W'=>(∃ w,e=.returned w∧VR W' L nomu v w)∧Below W.heap.size W W':=by
  refine ⟨known f hk,fun args H v rargs W L μ h hv hs=>?_⟩
  unfold gRd at h
  split at h
  · rename_i u rest
    obtain ⟨r,h1,h2⟩:=Option.bind_eq_some_iff.1 h
    obtain ⟨ns,h3,h4⟩:=Option.bind_eq_some_iff.1 h2
    obtain ⟨rfl,hns⟩:=znn h3
    obtain ⟨_,_,_,_,_,b1,b2⟩:=zka h1
    obtain ⟨hb,C,hT,hG,m,H',tc,hcall⟩:=hf r ns v b1 b2 hns h4
    refine (zmk hT hcall hb (hG _ _) ⟨hv.1,fun i x r hx hr=>?_⟩).mono fun e W' ⟨⟨w,h1,h2⟩,h3⟩=>⟨⟨w,h1,h2 _ _ _⟩,h3⟩
    match i,hx with
    |0,hx=>cases hx;exact rd_arg hs h1 (hv.2 0 _ r rfl hr)
    |i+1,hx=>
      rw[List.getElem?_cons_succ,List.getElem?_map] at hx
      obtain ⟨n,h5,rfl⟩:=Option.map_eq_some_iff.1 hx
      exact zfy (.inl ⟨_,_,rfl⟩) (hv.2 (i+1) (.int .i64 n) r (by rw[List.getElem?_cons_succ,List.getElem?_map,h5];rfl) hr)
  · cases h
def sHeight (r:Rd.Road):List Int→Option AV|[n,v]=>some (spanRV r (Rd.isPart r n&&Rd.isEvent r v) (Rd.heightsR r n.toNat (v.toNat+1)))|_=>none
def sSinks (r:Rd.Road):List Int→Option AV|[n,l]=>some (spanRV r (Rd.isPart r n&&Rd.isLoad l) (Rd.sinksR r n.toNat l))|_=>none
def sBears (r:Rd.Road):List Int→Option AV|[l]=>some (numRV r (Rd.isLoad l) (Rd.bearsR r l))|_=>none
def sMost (r:Rd.Road):List Int→Option AV|[]=>some (findRV r true (Rd.mostR r))|_=>none
def sRest (r:Rd.Road):List Int→Option AV|[l]=>some (findRV r (Rd.isLoad l) (Rd.restR r l))|_=>none
def sBelow (r:Rd.Road):List Int→Option AV|[]=>some (belowRV r)|_=>none
def sWeak (r:Rd.Road):List Int→Option AV|[]=>some (numRV r true (Rd.weakR r))|_=>none
def eqRd (r s:Rd.Road):Bool:=(r.parts.map fun p=>[p.height.lo,p.height.hi,p.stiff.lo,p.stiff.hi,p.rise.lo,p.rise.hi,p.full])==(s.parts.map fun p=>[p.height.lo,p.height.hi,p.stiff.lo,p.stiff.hi,p.rise.lo,p.rise.hi,p.full])&&(r.events.map fun v=>[v.kind,v.load.lo,v.load.hi,v.days,v.part,v.shows.lo,v.shows.hi])==(s.events.map fun v=>[v.kind,v.load.lo,v.load.hi,v.days,v.part,v.shows.lo,v.shows.hi])
theorem zou {α β:Type}{f:α→β}(hf:∀ p q,f p=f q→p=q):∀ {l m:List α},l.map f=m.map f→l=m
  |[],[],_=>rfl
  |[],q::m,h=>by cases h
  |p::l,[],h=>by cases h
  |p::l,q::m,h=>by
    obtain ⟨h1,h2⟩:=List.cons.inj h
    rw[hf p q h1,zou hf h2]
theorem ydf {r s:Rd.Road}(h:eqRd r s=true):r=s:=by
  unfold eqRd at h
  rw[Bool.and_eq_true,beq_iff_eq,beq_iff_eq] at h
  obtain ⟨a,b⟩:=r
  obtain ⟨c,d⟩:=s
  have h1 : a = c := zou (fun p q e => by
    obtain ⟨⟨a,b⟩,⟨c,d⟩,⟨e,f⟩,g⟩:=p
    obtain ⟨⟨a',b'⟩,⟨c',d'⟩,⟨e',f'⟩,g'⟩:=q
    simp at e
    simp[e]) h.1
  have h2 : b = d := zou (fun p q e => by
    obtain ⟨a,⟨b,c⟩,d,e,⟨f,g⟩⟩:=p
    obtain ⟨a',⟨b',c'⟩,d',e',⟨f',g'⟩⟩:=q
    simp at e
    simp[e]) h.2
  rw[h1,h2]
def sClash (r:Rd.Road):List Int→Option AV|[]=>if eqRd r clashRd=true then some (.tup [.int .i64 12,.int .i64 0]) else none|_=>none
noncomputable def exthL0 (f:Nat):Option (List AV→List AB→Option AV):=
  if f=14 then some (gRd sHeight) else if f=15 then some (gRd sSinks) else if f=16 then some (gRd sBears) else if f=19 then some (gRd sMost) else if f=17 then some (gRd sRest) else if f=26 then some (gRd sBelow) else if f=34 then some (gRd sWeak) else if f=18 then some (gRd sClash) else none
theorem zod (s:Clm.Sp)(e:Int):Bare (.tup [spA s,.int .i64 e]):=by
  intro x hx
  simp only[List.mem_cons,List.not_mem_nil,or_false] at hx
  rcases hx with rfl|rfl
  · refine .inr (.inr ⟨_,rfl,fun y hy=>?_⟩)
    simp only[List.mem_cons,List.not_mem_nil,or_false] at hy
    rcases hy with rfl|rfl<;>exact ⟨_,_,rfl⟩
  · exact .inl ⟨_,_,rfl⟩
theorem zgu (a e:Int):Bare (.tup [.int .i64 a,.int .i64 e]):=by
  intro x hx
  simp only[List.mem_cons,List.not_mem_nil,or_false] at hx
  rcases hx with rfl|rfl<;>exact .inl ⟨_,_,rfl⟩
theorem zuj (a b e:Int):Bare (.tup [.int .i64 a,.int .i64 b,.int .i64 e]):=by
  intro x hx
  simp only[List.mem_cons,List.not_mem_nil,or_false] at hx
  rcases hx with rfl|rfl|rfl<;>exact .inl ⟨_,_,rfl⟩
theorem zrf (f : Nat) (g : List AV → List AB → Option AV) (h : exthL0 f = some g) : (∃ F, Try.prog.funcs[f]? = some F ∧ (F.name == "runtime.NumGoroutine")=false∧F.body.isNone=false)∧∀ (args:List AV) (H:List AB) (v:AV) (rargs:Array Value) (W:World) (L:Nat→Prop) (μ:Mu),g args H=some v→VL W L μ args rargs.toList→Sim Try.prog W L μ H→Globs cfgK W L →
      CallsIn Fence.wide 0 Try.prog f rargs W fun e W'=>(∃ w,e=.returned w∧VR W' L nomu v w)∧Below W.heap.size W W':=by
  have kn : ∀ {f : Nat} {af : AFunc}, (∃ F, Try.prog.funcs[f]? = some F ∧ (F.name == "runtime.NumGoroutine")=false∧compFn Try.prog F=some af.strip)→∃ F,Try.prog.funcs[f]?=some F∧(F.name== "runtime.NumGoroutine")=false∧∃ af:AFunc,compFn Try.prog F=some af.strip:=fun ⟨F,h1,h2,h3⟩=>⟨F,h1,h2,_,h3⟩
  unfold exthL0 at h
  split at h
  · rename_i hf;subst hf;cases h
    obtain ⟨k1,k2⟩:=grd_ok (spec:=sHeight) (kn is14) fun r ns v b1 b2 hr hs=>by
      unfold sHeight at hs
      split at hs<;>cases hs
      exact ⟨zod _ _,cfgK,tblK,fun _ _=>zbn _ _ _,0+r.events.length+18,_,_,heightE knowsK ⟨by omega,by omega⟩ 0 _ _ (hr _ (by simp))⟩
    exact ⟨k1,fun args H v rargs W L μ a b c _=>k2 args H v rargs W L μ a b c⟩
  split at h
  · rename_i hf;subst hf;cases h
    obtain ⟨k1,k2⟩:=grd_ok (spec:=sSinks) (kn is15) fun r ns v b1 b2 hr hs=>by
      unfold sSinks at hs
      split at hs<;>cases hs
      exact ⟨zod _ _,cfgK,tblK,fun _ _=>zbn _ _ _,0+r.events.length+18,_,_,sinksE knowsK ⟨by omega,by omega⟩ 0 _ _⟩
    exact ⟨k1,fun args H v rargs W L μ a b c _=>k2 args H v rargs W L μ a b c⟩
  split at h
  · rename_i hf;subst hf;cases h
    obtain ⟨k1,k2⟩:=grd_ok (spec:=sBears) (kn is16) fun r ns v b1 b2 hr hs=>by
      unfold sBears at hs
      split at hs<;>cases hs
      exact ⟨zgu _ _,cfgK,tblK,fun _ _=>zbn _ _ _,0+r.events.length+18,_,_,bearsE knowsK ⟨by omega,by omega⟩ 0 _⟩
    exact ⟨k1,fun args H v rargs W L μ a b c _=>k2 args H v rargs W L μ a b c⟩
  split at h
  · rename_i hf;subst hf;cases h
    obtain ⟨k1,k2⟩:=grd_ok (spec:=sMost) (kn is19) fun r ns v b1 b2 hr hs=>by
      unfold sMost at hs
      split at hs<;>cases hs
      exact ⟨zgu _ _,cfgK,tblK,fun _ _=>zbn _ _ _,0+r.events.length+18,_,_,mostE knowsK ⟨by omega,by omega⟩ 0⟩
    exact ⟨k1,fun args H v rargs W L μ a b c _=>k2 args H v rargs W L μ a b c⟩
  split at h
  · rename_i hf;subst hf;cases h
    obtain ⟨k1,k2⟩:=grd_ok (spec:=sRest) (kn is17) fun r ns v b1 b2 hr hs=>by
      unfold sRest at hs
      split at hs<;>cases hs
      exact ⟨zgu _ _,cfgK,tblK,fun _ _=>zbn _ _ _,0+r.events.length+18,_,_,restE knowsK ⟨by omega,by omega⟩ 0 _⟩
    exact ⟨k1,fun args H v rargs W L μ a b c _=>k2 args H v rargs W L μ a b c⟩
  split at h
  · rename_i hf;subst hf;cases h
    obtain ⟨k1,k2⟩:=grd_ok (spec:=sBelow) (kn is26) fun r ns v b1 b2 hr hs=>by
      unfold sBelow at hs
      split at hs<;>cases hs
      exact ⟨zuj _ _ _,cfgK,tblK,fun _ _=>zbn _ _ _,0+r.events.length+18,_,_,belowE knowsK ⟨by omega,by omega⟩ 0⟩
    exact ⟨k1,fun args H v rargs W L μ a b c _=>k2 args H v rargs W L μ a b c⟩
  split at h
  · rename_i hf;subst hf;cases h
    obtain ⟨k1,k2⟩:=grd_ok (spec:=sWeak) (kn is34) fun r ns v b1 b2 hr hs=>by
      unfold sWeak at hs
      split at hs<;>cases hs
      exact ⟨zgu _ _,cfgK,tblK,fun _ _=>zbn _ _ _,0+r.events.length+18,_,_,weakE knowsK ⟨by omega,by omega⟩ 0⟩
    exact ⟨k1,fun args H v rargs W L μ a b c _=>k2 args H v rargs W L μ a b c⟩
  split at h
  · rename_i hf;subst hf;cases h
    obtain ⟨k1,k2⟩:=grd_ok (spec:=sClash) (kn is18) fun r ns v b1 b2 hr hs=>by
      unfold sClash at hs
      split at hs
      · split at hs
        · rename_i he
          cases hs
          rw[ydf he]
          obtain ⟨H',tc,hc⟩:=zpm
          exact ⟨zgu _ _,cfgQ,tblQ,fun _ _=>zbn _ _ _,40,_,_,hc⟩
        · cases hs
      · cases hs
    exact ⟨k1,fun args H v rargs W L μ a b c _=>k2 args H v rargs W L μ a b c⟩
  · cases h
end Ro
end Ev
end Go.Proofs.Ytlcjlcllbgjplaa

/- Chapter 05: what the laws are told; alive. -/
namespace Go.Proofs.Ytlcjlcllbgjplaa
open Go Go.Proofs Go.RowKit
namespace Ev
namespace Ro
open K
set_option maxRecDepth 1000000
noncomputable def cfgL0:Cfg where
  fns:=FT.find fnTree
  glob:=fun _=>none
  dfk:=fun _=>none
  ext:=fun _=>none
  exth:=exthL0
  calm:=true
  whole:=fun _=>true
theorem tblL0 : TblOk Try.prog cfgL0 := ⟨fun f fn h => FT.find_all zoi h, fun _ _ h => (by cases h), fun f g h => by
  obtain ⟨k1,k2⟩:=zrf f g h
  exact ⟨k1,fun args H v rargs W L μ a b c d=>k2 args H v rargs W L μ a b c (zbn _ _ _)⟩,fun _ _ _ h=>(by cases h)⟩
noncomputable def isTrue (o:Option (CRes × List AB × List Nat)):Bool:=match o with
  |some (.ret (.bool b),_,_)=>b
  |_=>false
theorem zpt:isTrue (Ev.call cfgL0 5 (.fn (.func 21) [] []) [] [])=true:=by kernel_rfl
theorem zum (W:World):CallsIn Fence.wide 0 Try.prog 21 #[] W fun e W'=>e=.returned (.bool true)∧Below W.heap.size W W':=by
  have h:=zpt
  generalize hr:Ev.call cfgL0 5 (.fn (.func 21) [] []) [] []=o at h
  unfold isTrue at h
  split at h
  · rename_i b H' tc
    subst h
    exact zzm tblL0 hr W (zbn _ _ _)
  · cases h
end Ro
end Ev
end Go.Proofs.Ytlcjlcllbgjplaa

/- What is returned of a road, by its truths: plain. -/
namespace Go.Proofs.Ytlcjlcllbgjplaa
open Go
namespace Rd
open Clm (Sp Hull spanL mem_span setOf)
def Lds (es:List Evt)(ls:List Int):Prop:=ls.length=es.length∧∀ (i:Nat) (v:Evt),es[i]?=some v→(v.kind=0→v.load.has (ls.getD i 0))∧(v.kind≠0→ls.getD i 0=0)
theorem zxu:∀ (es:List Evt) (ls:List Int),Lds es ls→ls∈allR es
  |[],[],_=>by simp[allR]
  |[],x::ls,h=>by have:=h.1;simp at this
  |e::es,[],h=>by have:=h.1;simp at this
  |e::es,x::ls,h=>by
    have h0:=h.2 0 e rfl
    have ht:=zxu es ls ⟨by simpa using h.1,fun i v hv=>h.2 (i+1) v hv⟩
    unfold allR
    by_cases hk:e.kind=0
    · rw[if_pos hk,List.mem_flatMap]
      exact ⟨x,(mem_span _ _).2 (h0.1 hk),List.mem_map.2 ⟨ls,ht,rfl⟩⟩
    · rw[if_neg hk]
      have:x=0:=h0.2 hk
      subst this
      exact List.mem_map.2 ⟨ls,ht,rfl⟩
theorem yct (es:List Evt)(ls:List Int):ls∈allR es↔Lds es ls:=by
  refine ⟨fun h=>?_,zxu es ls⟩
  obtain ⟨h1,h2⟩:=mem_allR es ls h
  refine ⟨h1,fun i v hv=>?_⟩
  obtain ⟨hi,rfl⟩:=List.getElem?_eq_some_iff.1 hv
  exact h2 i hi
theorem getD_l {l:List Int}{i:Nat}(h:i<l.length)(m:List Int):(l++m).getD i 0=l.getD i 0:=by
  rw[List.getD_eq_getElem?_getD,List.getD_eq_getElem?_getD,List.getElem?_append_left h]
theorem getD_r (l:List Int)(k:Int):(l++[k]).getD l.length 0=k:=by simp[List.getD_eq_getElem?_getD]
def rightE (r:Road)(i:Nat)(p:Tr)(ls:List Int)(h:Int):Prop:=∀ (j:Nat) (v:Evt),r.events[j]?=some v→v.kind=2→v.part=i→v.shows.lo≤heightR r p h ls j∧heightR r p h ls j≤v.shows.hi
theorem every_bit (r:Road){j:Nat}(h:j<r.events.length):bit (everyR r) j=true:=by
  unfold bit everyR
  rw[Nat.testBit_two_pow_sub_one]
  exact decide_eq_true h
theorem zmq (r:Road)(i:Nat)(p:Tr)(ls:List Int)(h:Int):right r i p ls (everyR r) h↔rightE r i p ls h:=by
  unfold right rightE
  constructor
  · intro H j v hv hk hp
    exact H (v,j) (List.mem_zipIdx_iff_getElem?.2 hv) (every_bit r (List.getElem?_eq_some_iff.1 hv).1) hk hp
  · rintro H ⟨v,j⟩ hq _ hk hp
    exact H j v (List.mem_zipIdx_iff_getElem?.1 hq) hk hp
def Tru (r:Road)(ls:List Int)(i:Nat)(p:Tr)(h:Int):Prop:=p∈partsR (r.parts.getD i default)∧(r.parts.getD i default).height.has h∧rightE r i p ls h
def All (r:Road)(ls:List Int):Prop:=Lds r.events ls∧∀ i,i<r.parts.length→∃ p h,Tru r ls i p h
theorem zlb {r:Road}{ls:List Int}{i:Nat}{w:Way}(hw:w∈waysR r i ls (everyR r)){h:Int}(hh:w.first.has h):Tru r ls i w.part h:=by
  obtain ⟨h1,h2,_⟩:=(mem_ways _ _ _ _ _).1 hw
  rw[h2,zkp,zmq] at hh
  exact ⟨h1,hh⟩
theorem zle {r:Road}{ls:List Int}{i:Nat}{p:Tr}{h:Int}(ht:Tru r ls i p h):∃ w∈waysR r i ls (everyR r),w.part=p∧w.first.has h:=by
  have hf:(firstR r i p ls (everyR r)).has h:=(zkp _ _ _ _ _ _).2 ⟨ht.2.1,(zmq _ _ _ _ _).2 ht.2.2⟩
  exact ⟨⟨p,firstR r i p ls (everyR r)⟩,(mem_ways _ _ _ _ _).2 ⟨ht.1,rfl,Int.le_trans hf.1 hf.2⟩,rfl,hf⟩
theorem way_lo {r:Road}{ls:List Int}{i:Nat}{w:Way}(hw:w∈waysR r i ls (everyR r)):w.first.has w.first.lo∧w.first.has w.first.hi:=by
  obtain ⟨_,_,h3⟩:=(mem_ways _ _ _ _ _).1 hw
  exact ⟨⟨Int.le_refl _,h3⟩,⟨h3,Int.le_refl _⟩⟩
theorem zdj (r:Road)(ls:List Int):ls∈toldR r (everyR r)↔All r ls:=by
  unfold toldR All
  rw[List.mem_filter,yct,List.all_eq_true]
  refine and_congr_right fun _=>⟨fun h i hi=>?_,fun h i hi=>?_⟩
  · have:=h i (List.mem_range.2 hi)
    cases hw:waysR r i ls (everyR r) with
    |nil=>rw[hw] at this;cases this
    |cons w l=>
      have hm:w∈waysR r i ls (everyR r):=by rw[hw];simp
      exact ⟨_,_,zlb hm (way_lo hm).1⟩
  · obtain ⟨p,h',ht⟩:=h i (List.mem_range.1 hi)
    obtain ⟨w,hw,_⟩:=zle ht
    cases he:waysR r i ls (everyR r) with
    |nil=>rw[he] at hw;cases hw
    |cons a b=>rfl
theorem zjr (r:Road):canR r (everyR r)=true↔∃ ls,All r ls:=by
  unfold canR
  constructor
  · intro h
    cases ht:toldR r (everyR r) with
    |nil=>rw[ht] at h;cases h
    |cons a b=>exact ⟨a,(zdj r a).1 (by rw[ht];simp)⟩
  · rintro ⟨ls,h⟩
    have:=(zdj r ls).2 h
    cases ht:toldR r (everyR r) with
    |nil=>rw[ht] at this;cases this
    |cons a b=>rfl
def endR (r:Road)(p:Tr)(h:Int)(ls:List Int):Int:=heightR r p h ls r.events.length
theorem zcr (r:Road)(d load:Int):sureR r d load=true↔∀ ls,All r ls→∀ i,i<r.parts.length→∀ p h,Tru r ls i p h→0≤rested p (endR r p h ls) d - sunk p load:=by
  unfold sureR
  simp only[List.all_eq_true,decide_eq_true_eq,List.mem_range]
  constructor
  · intro H ls hl i hi p h ht
    obtain ⟨w,hw,rfl,hh⟩:=zle ht
    have:=H ls ((zdj r ls).2 hl) i hi w hw
    exact Int.le_trans this (znk r w hh.1 ls d load)
  · intro H ls hl i hi w hw
    exact H ls ((zdj r ls).1 hl) i hi w.part w.first.lo (zlb hw (way_lo hw).1)
theorem zfb (r:Road)(load:Int):mayR r load=true↔∃ ls,All r ls∧∀ i,i<r.parts.length→∃ p h,Tru r ls i p h∧0≤rested p (endR r p h ls) 0 - sunk p load:=by
  unfold mayR
  simp only[List.any_eq_true,List.all_eq_true,decide_eq_true_eq,List.mem_range]
  constructor
  · rintro ⟨ls,hl,H⟩
    refine ⟨ls,(zdj r ls).1 hl,fun i hi=>?_⟩
    obtain ⟨w,hw,h⟩:=H i hi
    exact ⟨w.part,w.first.hi,zlb hw (way_lo hw).2,h⟩
  · rintro ⟨ls,hl,H⟩
    refine ⟨ls,(zdj r ls).2 hl,fun i hi=>?_⟩
    obtain ⟨p,h,ht,h0⟩:=H i hi
    obtain ⟨w,hw,rfl,hh⟩:=zle ht
    exact ⟨w,hw,Int.le_trans h0 (znk r w hh.2 ls 0 load)⟩
theorem zfp {r:Road}(hc:canR r (everyR r)=true){i:Nat}(hi:i<r.parts.length)(many:Nat):Hull (heightsR r i many) fun x=>∃ ls p h,All r ls∧Tru r ls i p h∧x=heightR r p h ls many:=by
  have H:=znq hc hi many
  have e:∀ x,(∃ ls∈toldR r (everyR r),∃ w∈waysR r i ls (everyR r),∃ h,w.first.has h∧x=heightR r w.part h ls many)↔∃ ls p h,All r ls∧Tru r ls i p h∧x=heightR r p h ls many:=by
    intro x
    constructor
    · rintro ⟨ls,hl,w,hw,h,hh,rfl⟩
      exact ⟨ls,w.part,h,(zdj r ls).1 hl,zlb hw hh,rfl⟩
    · rintro ⟨ls,p,h,hl,ht,rfl⟩
      obtain ⟨w,hw,rfl,hh⟩:=zle ht
      exact ⟨ls,(zdj r ls).2 hl,w,hw,h,hh,rfl⟩
  exact ⟨(e _).1 H.lo,(e _).1 H.hi,fun x hx=>H.all x ((e x).2 hx)⟩
def addR (r:Road)(v:Evt):Road:=⟨r.parts,r.events++[v]⟩
theorem zrs (p:Tr):∀ (es:List Evt) (ls m:List Int) (h:Int),es.length≤ls.length→after p es (ls++m) h=after p es ls h
  |[],_,_,_,_=>rfl
  |v::es,[],m,h,hl=>by simp at hl
  |v::es,x::ls,m,h,hl=>by
    show after p es (ls++m) (stepE v p h x)=after p es ls (stepE v p h x)
    exact zrs p es ls m _ (by simpa using hl)
theorem zjv (p:Tr)(v:Evt)(k:Int):∀ (es:List Evt) (ls:List Int) (h:Int),ls.length=es.length→after p (es++[v]) (ls++[k]) h=stepE v p (after p es ls h) k
  |[],[],h,_=>rfl
  |[],x::ls,h,hl=>by simp at hl
  |e::es,[],h,hl=>by simp at hl
  |e::es,x::ls,h,hl=>by
    show after p (es++[v]) (ls++[k]) (stepE e p h x)=stepE v p (after p es ls (stepE e p h x)) k
    exact zjv p v k es ls _ (by simpa using hl)
theorem zea {r:Road}{v:Evt}{l:List Int}(hl:l.length=r.events.length)(k:Int)(p:Tr)(h:Int){j:Nat}(hj:j≤r.events.length):heightR (addR r v) p h (l++[k]) j=heightR r p h l j:=by
  unfold heightR addR
  simp only
  rw[List.take_append_of_le_length hj]
  exact zrs p _ _ _ _ (by simp;omega)
theorem zhg {r:Road}{v:Evt}{l:List Int}(hl:l.length=r.events.length)(k:Int)(p:Tr)(h:Int):heightR (addR r v) p h (l++[k]) (r.events.length+1)=stepE v p (endR r p h l) k:=by
  unfold heightR addR endR heightR
  simp only
  rw[List.take_of_length_le (by simp),List.take_of_length_le (Nat.le_refl _)]
  exact zjv p v k _ _ _ hl
theorem zov (es:List Evt)(v:Evt)(ls:List Int):Lds (es++[v]) ls↔∃ l k,ls=l++[k]∧Lds es l∧(v.kind=0→v.load.has k)∧(v.kind≠0→k=0):=by
  constructor
  · rintro ⟨h1,h2⟩
    have hne:ls≠[]:=fun e=>by rw[e] at h1;simp at h1
    obtain ⟨l,k,rfl⟩:∃ l k,ls=l++[k]:=⟨_,_,(List.dropLast_concat_getLast hne).symm⟩
    have hl:l.length=es.length:=by simpa using h1
    refine ⟨l,k,rfl,⟨hl,fun i w hw=>?_⟩,?_⟩
    · have hi:=(List.getElem?_eq_some_iff.1 hw).1
      have:=h2 i w (by rw[List.getElem?_append_left hi];exact hw)
      rwa [getD_l (by omega)] at this
    · have:=h2 es.length v (by simp)
      rwa [← hl,getD_r] at this
  · rintro ⟨l,k,rfl,⟨h1,h2⟩,h3⟩
    refine ⟨by simp[h1],fun i w hw=>?_⟩
    by_cases hi:i<es.length
    · rw[List.getElem?_append_left hi] at hw
      rw[getD_l (by omega)]
      exact h2 i w hw
    · rw[List.getElem?_append_right (by omega)] at hw
      have h0:i - es.length=0:=by
        have:=(List.getElem?_eq_some_iff.1 hw).1
        simp at this;omega
      rw[h0] at hw
      cases hw
      have:i=l.length:=by omega
      subst this
      rw[getD_r]
      exact h3
theorem zeq {r:Road}{v:Evt}{l:List Int}(hl:l.length=r.events.length)(k:Int)(i:Nat)(p:Tr)(h:Int):Tru (addR r v) (l++[k]) i p h↔Tru r l i p h∧(v.kind=2→v.part=i→v.shows.lo≤endR r p h l∧endR r p h l≤v.shows.hi):=by
  unfold Tru
  have e:rightE (addR r v) i p (l++[k]) h↔rightE r i p l h∧(v.kind=2→v.part=i→v.shows.lo≤endR r p h l∧endR r p h l≤v.shows.hi):=by
    constructor
    · intro H
      refine ⟨fun j w hw hk hp=>?_,fun hk hp=>?_⟩
      · have hj:=(List.getElem?_eq_some_iff.1 hw).1
        have:=H j w (by show (r.events++[v])[j]?=_;rw[List.getElem?_append_left hj];exact hw) hk hp
        rwa [zea hl k p h (by omega)] at this
      · have:=H r.events.length v (by show (r.events++[v])[_]?=_;simp) hk hp
        rwa [zea hl k p h (Nat.le_refl _)] at this
    · rintro ⟨H,H2⟩ j w hw hk hp
      have hw':(r.events++[v])[j]?=some w:=hw
      by_cases hj:j<r.events.length
      · rw[List.getElem?_append_left hj] at hw'
        rw[zea hl k p h (by omega)]
        exact H j w hw' hk hp
      · have hj2:=(List.getElem?_eq_some_iff.1 hw').1
        have:j=r.events.length:=by simp at hj2;omega
        subst this
        rw[zea hl k p h (Nat.le_refl _)]
        simp at hw'
        subst hw'
        exact H2 hk hp
  rw[e]
  show p∈partsR (r.parts.getD i default)∧(r.parts.getD i default).height.has h∧_↔_
  exact ⟨fun ⟨a,b,c,d⟩=>⟨⟨a,b,c⟩,d⟩,fun ⟨⟨a,b,c⟩,d⟩=>⟨a,b,c,d⟩⟩
theorem zdu {r:Road}{v:Evt}(hv:v.kind≠2)(ls:List Int):All (addR r v) ls↔∃ l k,ls=l++[k]∧All r l∧(v.kind=0→v.load.has k)∧(v.kind≠0→k=0):=by
  unfold All
  constructor
  · rintro ⟨h1,h2⟩
    obtain ⟨l,k,rfl,h3,h4⟩:=(zov r.events v ls).1 h1
    refine ⟨l,k,rfl,⟨h3,fun i hi=>?_⟩,h4⟩
    obtain ⟨p,h,ht⟩:=h2 i hi
    exact ⟨p,h,((zeq h3.1 k i p h).1 ht).1⟩
  · rintro ⟨l,k,rfl,⟨h3,h5⟩,h4⟩
    refine ⟨(zov r.events v _).2 ⟨l,k,rfl,h3,h4⟩,fun i hi=>?_⟩
    obtain ⟨p,h,ht⟩:=h5 i hi
    exact ⟨p,h,(zeq h3.1 k i p h).2 ⟨ht,fun h=>absurd h hv⟩⟩
theorem zlf {r:Road}(hr:Fine r){ls:List Int}{i:Nat}(hi:i<r.parts.length){p:Tr}{h:Int}(ht:Tru r ls i p h):1≤p.stiff∧p.stiff≤10∧0≤p.rise∧p.rise≤5∧0≤h∧h≤p.full∧p.full≤60:=by
  obtain ⟨a,b,c,d,e,f⟩:=tr_fine hr hi ht.1
  have hp:=hr.part _ (part_mem hi)
  have hh:=ht.2.1
  simp only[Sp.has] at hh
  omega
end Rd
end Go.Proofs.Ytlcjlcllbgjplaa

/- Chapter 05: a rest, a pass more: plain. -/
namespace Go.Proofs.Ytlcjlcllbgjplaa
open Go
namespace Rd
open Clm (Sp Hull spanL mem_span setOf)
def restE (n:Int):Evt:=⟨1,⟨0,0⟩,n,0,⟨0,0⟩⟩
def passE (a b:Int):Evt:=⟨0,⟨a,b⟩,0,0,⟨0,0⟩⟩
theorem zrc {r:Road}(hr:Fine r)(h9:r.events.length≤9){v:Evt}(hv:(v.kind=0∧0≤v.load.lo∧v.load.lo≤v.load.hi∧v.load.hi≤60∧v.load.hi - v.load.lo≤2)∨(v.kind=1∧1≤v.days∧v.days≤10)∨(v.kind=2∧(0≤v.part∧v.part<r.parts.length)∧-1000≤v.shows.lo∧v.shows.lo≤v.shows.hi∧v.shows.hi≤1000))(hd:¬ (v.kind=0∧v.load.lo<v.load.hi)):Fine (addR r v) where
  parts:=hr.parts
  events:=by simp[addR];omega
  part:=hr.part
  event w hw:=by
    rcases List.mem_append.1 hw with hw|hw
    · exact hr.event w hw
    · simp only[List.mem_singleton] at hw
      subst hw
      exact hv
  doubts:=by
    have:=hr.doubts
    simp only[addR,List.filter_append,List.length_append,List.filter_cons,decide_eq_false hd,List.filter_nil]
    simpa using this
theorem fine_rest {r:Road}(hr:Fine r)(h9:r.events.length≤9){n:Int}(h1:1≤n)(h2:n≤10):Fine (addR r (restE n)):=zrc hr h9 (.inr (.inl ⟨rfl,h1,h2⟩)) (by simp[restE])
theorem fine_pass {r:Road}(hr:Fine r)(h9:r.events.length≤9){n:Int}(h1:0≤n)(h2:n≤60):Fine (addR r (passE n n)):=zrc hr h9 (.inl ⟨rfl,h1,Int.le_refl _,h2,by simp[passE]⟩) (by simp[passE])
theorem can_eq {r s:Road}(h:(∃ ls,All r ls)↔∃ ls,All s ls):canR r (everyR r)=canR s (everyR s):=by
  rw[Bool.eq_iff_iff,zjr,zjr];exact h
theorem rest_can (r:Road)(n:Int):canR (addR r (restE n)) (everyR (addR r (restE n)))=canR r (everyR r):=by
  refine can_eq ⟨?_,?_⟩
  · rintro ⟨ls,h⟩
    obtain ⟨l,k,rfl,h1,_⟩:=(zdu (by simp[restE]) ls).1 h
    exact ⟨l,h1⟩
  · rintro ⟨ls,h⟩
    exact ⟨ls++[0],(zdu (by simp[restE]) _).2 ⟨ls,0,rfl,h,by simp[restE],fun _=>rfl⟩⟩
theorem pass_can (r:Road)(n:Int):canR (addR r (passE n n)) (everyR (addR r (passE n n)))=canR r (everyR r):=by
  refine can_eq ⟨?_,?_⟩
  · rintro ⟨ls,h⟩
    obtain ⟨l,k,rfl,h1,_⟩:=(zdu (by simp[passE]) ls).1 h
    exact ⟨l,h1⟩
  · rintro ⟨ls,h⟩
    exact ⟨ls++[n],(zdu (by simp[passE]) _).2 ⟨ls,n,rfl,h,fun _=>⟨Int.le_refl _,Int.le_refl _⟩,fun h=>absurd rfl h⟩⟩
theorem zif {r:Road}{l:List Int}(hl:l.length=r.events.length)(n k:Int)(p:Tr)(h:Int):endR (addR r (restE n)) p h (l++[k])=rested p (endR r p h l) n:=by
  have:=zhg (v:=restE n) hl k p h
  unfold endR
  rw[show (addR r (restE n)).events.length=r.events.length+1 by simp[addR],this]
  rfl
theorem zrj {r:Road}{l:List Int}(hl:l.length=r.events.length)(a b k:Int)(p:Tr)(h:Int):endR (addR r (passE a b)) p h (l++[k])=endR r p h l - sunk p k:=by
  have:=zhg (v:=passE a b) hl k p h
  unfold endR
  rw[show (addR r (passE a b)).events.length=r.events.length+1 by simp[addR],this]
  rfl
theorem zdl (p:Tr)(h n:Int):rested p (rested p h n) 0=rested p h n:=by unfold rested;omega
theorem zvw (r:Road)(n load:Int):sureR (addR r (restE n)) 0 load=sureR r n load:=by
  rw[Bool.eq_iff_iff,zcr,zcr]
  constructor
  · intro H ls hl i hi p h ht
    have:=H (ls++[0]) ((zdu (by simp[restE]) _).2 ⟨ls,0,rfl,hl,by simp[restE],fun _=>rfl⟩) i hi p h ((zeq hl.1.1 0 i p h).2 ⟨ht,by simp[restE]⟩)
    rwa [zif hl.1.1,zdl] at this
  · intro H ls hl i hi p h ht
    obtain ⟨l,k,rfl,h1,_⟩:=(zdu (by simp[restE]) ls).1 hl
    rw[zif h1.1.1,zdl]
    exact H l h1 i hi p h ((zeq h1.1.1 k i p h).1 ht).1
end Rd
end Go.Proofs.Ytlcjlcllbgjplaa

/- The code of functions of the laws, for the evaluator. Printed by program. -/
namespace Go.Proofs.Ytlcjlcllbgjplaa
open Go
namespace Ev
def af29:AFunc:=⟨14,[.cell 4 (some 2)],Zq [Zo 0 2 (.box (Zt 0)),Zo 1 3 (.box (Zt 1)),Zo 2 4 (.alloc [.nils,.nils])] (.seq (.draw [Zo 0 5 (.buildSl 7 0 [Zi 0,Zi 0,Zi 0,Zi 0,Zi 0,Zi 0,Zi 0] []),Zo 1 6 (.fieldA 1 (Zt 2)),Zd 2 7 2 (.load none (Zt 6)),Zo 4 9 (.load (some 7) (Zt 3)),Zd 5 10 16 (.buildSl 7 1 [Zi 0,Zi 0,Zi 0,Zi 0,Zi 0,Zi 0,Zi 0] [(0,Zt 9)]),Zd 3 8 7 (.append 7 (Zt 5) (Zt 7)),Zd 6 11 63 (.append 7 (Zt 8) (Zt 10)),Zd 7 12 127 (.fieldA 1 (Zt 2)),Ze 8 255 (.store 1 (Zt 12) (Zt 11))]) (Zq [Zo 0 13 (.load (some 2) (Zt 2)),Zs 1 (.store 2 (Zt 4) (Zt 13))] .ret))⟩
end Ev
end Go.Proofs.Ytlcjlcllbgjplaa

/- Chapter 05: small functions of the laws. -/
namespace Go.Proofs.Ytlcjlcllbgjplaa
open Go
namespace Ev
namespace Ro
open K
attribute [local simp] ev1 wantG spineK spine float xnew xval xeff zaa zar zbe zax zaw addFl cellsOf pickC alive slLen slFt binI maxA maxK minA minK aeqK aeqS AV.cells spA zat fillA setAt bitsI nat_nn zbf AV.plain apart
set_option maxRecDepth 100000
set_option maxHeartbeats 4000000
theorem yat (C:Cfg)(call:CallF)(r:Rd.Road)(H:List AB):Does (ev C call H.length none af22.body { tm:=tmA af22.ntmps (zipI 0 [.agg (roadCs r)] []),df:=[],hp:=H,tc:=[] })
    (Ends C H.length af22.res fun v _hp tc=>v=.bool (decide (max r.parts.length r.events.length > 40))∧tc=[]):=by
  have e:decide ((40:Int)<max (r.parts.length:Int) (r.events.length:Int))=decide (max r.parts.length r.events.length > 40):=by congr 1;simp;omega
  rw[← e]
  unfold af22 Zq Zm Zl Zo Zt Zn
  simp only[zipI,roadCs]
  (repeat (first|(with_reducible apply zah;(focus ((conv=>lhs;simp[*,Nat.testBit_eq_decide_div_mod_eq])<;>exact rfl));simp only[addFl])|((with_reducible first|apply zai|apply zak|apply zag|apply zae|apply zac|apply zaj|apply zaf|apply zam|(apply zad;· simp[*,zaa])|(apply zab;· simp[*,zaa]));try simp only[Then,Ops])|simp only[Nat.reduceEqDiff,reduceIte,OutB,Then]))
  exact zan (v:=.bool (decide ((40:Int)<max (r.parts.length:Int) (r.events.length:Int)))) (.inl rfl) rfl (by simp) (by simp only[resL,resOf,zal];simp[*,resV]) ⟨rfl,rfl⟩
theorem zxl (C:Cfg)(call:CallF)(H:List AB)(a b:Int):Does (ev C call H.length none af12.body { tm:=tmA af12.ntmps (zipI 0 [.int .i64 a,.int .i64 b] []),df:=[],hp:=H,tc:=[] })
    (Ends C H.length af12.res fun v _hp tc=>v=.agg [.int .i64 a,.int .i64 b]∧tc=[]):=by
  unfold af12 Zq Zm Zo Zs Zt Zi
  simp only[zipI]
  (repeat (first|(with_reducible apply zah;(focus ((conv=>lhs;simp[*,Nat.testBit_eq_decide_div_mod_eq])<;>exact rfl));simp only[addFl])|((with_reducible first|apply zai|apply zak|apply zag|apply zae|apply zac|apply zaj|apply zaf|apply zam|(apply zad;· simp[*,zaa])|(apply zab;· simp[*,zaa]));try simp only[Then,Ops])|simp only[Nat.reduceEqDiff,reduceIte,OutB,Then]))
  exact zan (v:=.agg [.int .i64 a,.int .i64 b]) (.inl rfl) rfl (by simp) (by simp only[resL,resOf,zal];simp[*,pickC,resV]) ⟨rfl,by simp⟩
def restA (n:Int):Rd.Evt:=Rd.restE n
theorem zxo (C:Cfg)(call:CallF)(H:List AB)(n:Int):Does (ev C call H.length none af33.body { tm:=tmA af33.ntmps (zipI 0 [.int .i64 n] []),df:=[],hp:=H,tc:=[] })
    (Ends C H.length af33.res fun v _hp tc=>v=evE (restA n)∧tc=[]):=by
  unfold af33 Zq Zm Zo Zs Zt Zn Zi
  simp only[zipI]
  (repeat (first|(with_reducible apply zah;(focus ((conv=>lhs;simp[*,Nat.testBit_eq_decide_div_mod_eq])<;>exact rfl));simp only[addFl])|((with_reducible first|apply zai|apply zak|apply zag|apply zae|apply zac|apply zaj|apply zaf|apply zam|(apply zad;· simp[*,zaa])|(apply zab;· simp[*,zaa]));try simp only[Then,Ops])|simp only[Nat.reduceEqDiff,reduceIte,OutB,Then]))
  exact zan (v:=.agg [.int .i64 1,.int .i64 0,.int .i64 0,.int .i64 n,.int .i64 0,.int .i64 0,.int .i64 0]) (.inl rfl) rfl (by simp) (by simp only[resL,resOf,zal];simp[*,pickC,resV]) ⟨rfl,by simp⟩
theorem zzi (C:Cfg)(call:CallF)(r:Rd.Road)(hb:r.events.length≤1000)(H:List AB)(v:Rd.Evt):Does (ev C call H.length none af29.body { tm:=tmA af29.ntmps (zipI 0 [.agg (roadCs r),evE v] []),df:=[],hp:=H,tc:=[] })
    (Ends C H.length af29.res fun w hp tc=>∃ b,w=.agg [.vs 7 (r.parts.map ptE),.sl b 0 (r.events.length+1) 7]∧tc=[]∧Kp [] H hp∧H.length≤b∧hp[b]?=some (.cells (evCs (r.events++[v])))):=by
  have hbd:r.events.length≤bound:=by unfold bound;omega
  have hbd1:r.events.length+1≤bound:=by unfold bound;omega
  have hb1:1≤bound:=by decide
  have hsE:∀ H,slCells 7 H (.vs 7 (r.events.map evE))=some (evCs r.events):=fun H=>zly H r.events
  unfold af29 Zq Zo Zs Zd Ze Zt Zi
  simp only[zipI,roadCs,evE]
  (repeat (first|((with_reducible apply zah);(focus ((with_reducible apply zas);(focus rfl);(focus rfl);(focus ((conv=>lhs;simp[*,List.getElem?_append_right,List.set_append_right,List.getElem?_cons_zero,List.getElem?_append_left,List.set_append_left,-getElem?_pos,zci,zdr,Nat.testBit_eq_decide_div_mod_eq])<;>exact rfl));(focus rfl);(focus rfl)));simp only[addFl])|(with_reducible apply zah;(focus ((conv=>lhs;simp[*,List.getElem?_append_right,List.set_append_right,List.getElem?_cons_zero,List.getElem?_append_left,List.set_append_left,-getElem?_pos,zci,zdr,Nat.testBit_eq_decide_div_mod_eq])<;>exact rfl));simp only[addFl])|((with_reducible first|apply zai|apply zak|apply zag|apply zae|apply zac|apply zaj|apply zaf|apply zam|(apply zad;· simp[*,zaa])|(apply zab;· simp[*,zaa]));try simp only[Then,Ops])|simp only[Nat.reduceEqDiff,reduceIte,OutB,Then]))
  refine zan (v:=.agg [.vs 7 (r.parts.map ptE),.sl (H.length+6) 0 (r.events.length+1) 7]) (.inl rfl) rfl (by simp) ?_ ⟨H.length+6,rfl,rfl,Kp.app H _,by omega,?_⟩
  · simp only[resL,resOf,zal];simp[resV,pickC]
  · rw[List.getElem?_append_right (by omega),show H.length+6 - H.length=6 by omega]
    simp[zlz,evCs]
def WithC (call:CallF)(r:Rd.Road):Prop:=∀ (H:List AB) (v:Rd.Evt),∃ H' b,call (.fn (.func 29) [] []) [.agg [.vs 7 (r.parts.map ptE),.vs 7 (r.events.map evE)],evE v] H=some (.ret (.agg [.vs 7 (r.parts.map ptE),.sl b 0 (r.events.length+1) 7]),H',[])∧Kp [] H H'∧H.length≤b∧H'[b]?=some (.cells (evCs (r.events++[v])))
theorem zuq {C:Cfg}(hC:C.calm=true)(hw:Has C 29 af29){r:Rd.Road}(hb:r.events.length≤1000)(n:Nat):WithC (Ev.call C (n+1)) r:=by
  intro H v
  obtain ⟨w,hp,tc,H',c1,⟨b,rfl,rfl,c2,c3,c4⟩,c5,c6,c7⟩:=zdk (n:=n) (first:=[]) (captured:=[]) (args:=[.agg (roadCs r),evE v]) hC hw.ext hw.exth hw.fns hw.whole (le' rfl) (zzi C (Ev.call C n) r hb H v)
  have he:=lft_eq (v:=.agg [.vs 7 (r.parts.map ptE),.sl b 0 (r.events.length+1) 7]) c5 c2 c6 (.inl (by simp[refs,refsL]))
  subst he
  exact ⟨H',b,c1,c2,c3,c4⟩
end Ro
end Ev
end Go.Proofs.Ytlcjlcllbgjplaa

/- What the laws of chapter 05 are told. -/
namespace Go.Proofs.Ytlcjlcllbgjplaa
open Go
namespace Ev
namespace Ro
open K
set_option maxRecDepth 100000
set_option maxHeartbeats 4000000
def i64n (n:Int):Prop:=-9223372036854775808≤n∧n≤9223372036854775807
structure LApi (call:CallF):Prop where
  height:∀ {H v r},roadOf H v=some r→∀ n m,i64n n→i64n m→call (.fn (.func 14) [] []) [v,.int .i64 n,.int .i64 m] H=some (.ret (spanRV r (Rd.isPart r n&&Rd.isEvent r m) (Rd.heightsR r n.toNat (m.toNat+1))),H,[])
  sinks:∀ {H v r},roadOf H v=some r→∀ n m,i64n n→i64n m→call (.fn (.func 15) [] []) [v,.int .i64 n,.int .i64 m] H=some (.ret (spanRV r (Rd.isPart r n&&Rd.isLoad m) (Rd.sinksR r n.toNat m)),H,[])
  bears:∀ {H v r},roadOf H v=some r→∀ n,i64n n→call (.fn (.func 16) [] []) [v,.int .i64 n] H=some (.ret (numRV r (Rd.isLoad n) (Rd.bearsR r n)),H,[])
  most:∀ {H v r},roadOf H v=some r→call (.fn (.func 19) [] []) [v] H=some (.ret (findRV r true (Rd.mostR r)),H,[])
  rest:∀ {H v r},roadOf H v=some r→∀ n,i64n n→call (.fn (.func 17) [] []) [v,.int .i64 n] H=some (.ret (findRV r (Rd.isLoad n) (Rd.restR r n)),H,[])
  below:∀ {H v r},roadOf H v=some r→call (.fn (.func 26) [] []) [v] H=some (.ret (belowRV r),H,[])
  weak:∀ {H v r},roadOf H v=some r→call (.fn (.func 34) [] []) [v] H=some (.ret (numRV r true (Rd.weakR r)),H,[])
  valid:∀ {H v r},roadOf H v=some r→call (.fn (.func 23) [] []) [v] H=some (.ret (.bool (Rd.valid r)),H,[])
  alive:∀ {H},call (.fn (.func 21) [] []) [] H=some (.ret (.bool true),H,[])
  long:∀ {H} (r:Rd.Road),call (.fn (.func 22) [] []) [.agg [.vs 7 (r.parts.map ptE),.vs 7 (r.events.map evE)]] H=some (.ret (.bool (decide (max r.parts.length r.events.length > 40))),H,[])
end Ro
end Ev
end Go.Proofs.Ytlcjlcllbgjplaa

/- The laws of chapter 05: their configuration. -/
namespace Go.Proofs.Ytlcjlcllbgjplaa
open Go Go.Proofs Go.RowKit
namespace Ev
namespace Ro
open K
set_option maxRecDepth 100000
set_option maxHeartbeats 4000000
structure KnowsR (C:Cfg):Prop where
  calm:C.calm=true
  rin:Has C 74 af74
  rspan:Has C 75 af75
  rpart:Has C 96 af96
  revent:Has C 76 af76
  rroad:Has C 23 af23
theorem knowsR:KnowsR cfgK where
  calm:=rfl
  rin:=has_of rfl rfl (by kernel_rfl) rfl
  rspan:=has_of rfl rfl (by kernel_rfl) rfl
  rpart:=has_of rfl rfl (by kernel_rfl) rfl
  revent:=has_of rfl rfl (by kernel_rfl) rfl
  rroad:=has_of rfl rfl (by kernel_rfl) rfl
theorem validL (r:Rd.Road)(hp:r.parts.length≤40)(he:r.events.length≤50):Ev.call cfgK 4 (.fn (.func 23) [] []) [.agg (roadCs r)] []=some (.ret (.bool (Rd.valid r)),[],[]):=by
  have k:=knowsR
  have h1:∀ n,RinC (Ev.call cfgK (n+1)):=fun n H a b c=>zay k.calm k.rin (le' rfl) rfl (ycb cfgK _ H a b c)
  have h2:∀ n,RspanC (Ev.call cfgK (n+1)):=fun n H s a b w q1 q2=>zay k.calm k.rspan (le' rfl) rfl (zvq cfgK _ H s a b w q1 q2)
  have h3:∀ n,RpartC (Ev.call cfgK (n+2)) r:=fun n H m=>zay k.calm k.rpart (le' rfl) rfl (zvs cfgK _ (h1 n) r (by omega) H m)
  have h4:∀ n,ReventC (Ev.call cfgK (n+3)) r:=fun n H v=>zay k.calm k.revent (le' rfl) rfl (zsg cfgK _ r (h1 (n+1)) (h3 n) (h2 (n+1)) H v)
  exact zay k.calm k.rroad (le' rfl) rfl (zvr cfgK k.calm _ r ⟨by omega,by omega⟩ (h1 2) (h2 2) (h4 0) [])
def sValid (r:Rd.Road):List Int→Option AV|[]=>some (.bool (Rd.valid r))|_=>none
def gAlive (args:List AV)(_:List AB):Option AV:=match args with|[]=>some (.bool true)|_=>none
noncomputable def exthL (f:Nat):Option (List AV→List AB→Option AV):=if f=23 then some (gRd sValid) else if f=21 then some gAlive else exthL0 f
noncomputable def cfgL (t:FT):Cfg where
  fns:=FT.find t
  glob:=fun _=>none
  dfk:=fun _=>none
  ext:=fun _=>none
  exth:=exthL
  calm:=true
  whole:=fun _=>true
def IsTree (t : FT) : Prop := FT.All (fun k af => ∃ F, Try.prog.funcs[k]? = some F ∧ (F.name == "runtime.NumGoroutine")=false∧compFn Try.prog F=some af.strip) t
theorem tblL {t:FT}(ht:IsTree t):TblOk Try.prog (cfgL t):=by
  refine ⟨fun f fn h=>FT.find_all ht h,fun _ _ h=>(by cases h),fun f g h=>?_,fun _ _ _ h=>(by cases h)⟩
  have h':exthL f=some g:=h
  unfold exthL at h'
  split at h'
  · rename_i hf;subst hf;cases h'
    obtain ⟨F,f1,f2,f3⟩:=is23
    obtain ⟨k1,k2⟩:=grd_ok (spec:=sValid) ⟨F,f1,f2,_,f3⟩ fun r ns v b1 b2 hr hs=>by
      unfold sValid at hs
      split at hs<;>cases hs
      exact ⟨trivial,cfgK,tblK,fun _ _=>zbn _ _ _,4,_,_,validL r b1 b2⟩
    exact ⟨k1,fun args H v rargs W L μ a b c _=>k2 args H v rargs W L μ a b c⟩
  split at h'
  · rename_i hf;subst hf;cases h'
    obtain ⟨F,f1,f2,f3⟩:=is21
    refine ⟨known _ ⟨F,f1,f2,_,f3⟩,fun args H v rargs W L μ hv hr hs hG=>?_⟩
    unfold gAlive at hv
    split at hv
    · cases hv
      have:rargs=#[]:=Array.ext' (List.eq_nil_of_length_eq_zero (by have:=hr.1;simpa using this.symm))
      subst this
      exact (zum W).mono fun e W' ⟨h1,h2⟩=>⟨⟨_,h1,.bool⟩,h2⟩
    · cases hv
  · obtain ⟨k1,k2⟩:=zrf f g h'
    exact ⟨k1,fun args H v rargs W L μ a b c d=>k2 args H v rargs W L μ a b c (zbn _ _ _)⟩
theorem zcw {t:FT}{f:Nat}{spec:Rd.Road→List Int→Option AV}(h:exthL f=some (gRd spec))(n:Nat){H:List AB}{v:AV}{c:Rd.Road}(hc:roadOf H v=some c)(ns:List Int)(hn:∀ n∈ns,i64n n){w:AV}(hs:spec c ns=some w):Ev.call (cfgL t) (n+1) (.fn (.func f) [] []) (v::ns.map (AV.int .i64)) H=some (.ret w,H,[]):=by
  show enter (cfgL t) (Ev.call (cfgL t) n) f ([]++(v::ns.map (AV.int .i64))++[]) H=_
  unfold enter
  have h1:(cfgL t).ext f=none:=rfl
  have h2:(cfgL t).exth f=some (gRd spec):=h
  rw[h1,h2]
  have hi:∀ ns:List Int,(∀ n∈ns,i64n n)→intsOf (ns.map (AV.int .i64))=some ns:=by
    intro ns
    induction ns with
    |nil=>intro _;rfl
    |cons a l ih=>
      intro h
      have h1:=h a (by simp)
      have h2:=ih fun n hn=>h n (by simp[hn])
      unfold i64n at h1
      simp[intsOf,h2,h1]
  have h3:gRd spec ([]++(v::ns.map (AV.int .i64))++[]) H=some w:=by
    simp[gRd,hc,hi ns hn,hs]
  simp only[h3,Option.map_some]
theorem lapi {t:FT}(hl:Has (cfgL t) 22 af22)(n:Nat):LApi (Ev.call (cfgL t) (n+1)) where
  height hc a b ha hb:=zcw (spec:=sHeight) rfl n hc [a,b] (by simp[ha,hb]) rfl
  sinks hc a b ha hb:=zcw (spec:=sSinks) rfl n hc [a,b] (by simp[ha,hb]) rfl
  bears hc a ha:=zcw (spec:=sBears) rfl n hc [a] (by simp[ha]) rfl
  most hc:=zcw (spec:=sMost) rfl n hc [] (by simp) rfl
  rest hc a ha:=zcw (spec:=sRest) rfl n hc [a] (by simp[ha]) rfl
  below hc:=zcw (spec:=sBelow) rfl n hc [] (by simp) rfl
  weak hc:=zcw (spec:=sWeak) rfl n hc [] (by simp) rfl
  valid hc:=zcw (spec:=sValid) rfl n hc [] (by simp) rfl
  alive {H}:=by
    show enter (cfgL t) (Ev.call (cfgL t) n) 21 ([]++[]++[]) H=some (.ret (.bool true),H,[])
    unfold enter
    have h1:(cfgL t).ext 21=none:=rfl
    have h2:(cfgL t).exth 21=some gAlive:=rfl
    rw[h1,h2];rfl
  long {H} r:=zay rfl hl (le' rfl) rfl (yat (cfgL t) _ r H)
end Ro
end Ev
end Go.Proofs.Ytlcjlcllbgjplaa

/- An argument that is a road: from its reading to the evaluator's value. -/
namespace Go.Proofs.Ytlcjlcllbgjplaa
open Go Go.Proofs Go.RowKit Go.ChangeShapes Go.WideShapes Go.Deep
namespace Ev
namespace Ro
open K
section
variable {H:Type} {enc:TypeId × Value→H} {w:World} {base:Nat} {spare:Nat→Bool} {held:Bool} {fuel:Nat} {cs:List Value}
theorem list2 {cs:List Value}(h:cs.length=2):∃ a b,cs=[a,b]:=by
  match cs,h with|[a,b],_=>exact ⟨a,b,rfl⟩
theorem list7 {cs:List Value}(h:cs.length=7):∃ a b c d e f g,cs=[a,b,c,d,e,f,g]:=by
  match cs,h with|[a,b,c,d,e,f,g],_=>exact ⟨a,b,c,d,e,f,g,rfl⟩
theorem zjn:Try.prog.cellsOf 3=1:=by kernel_rfl
theorem zhl:Try.prog.cellsOf 28=2:=by kernel_rfl
theorem zkv:Try.prog.cellsOf 56=7:=by kernel_rfl
theorem zjo:Try.prog.cellsOf 60=7:=by kernel_rfl
theorem zud:Try.prog.cellsOf 25=2:=by kernel_rfl
theorem zpn:Try.prog.cellsOf 22=1:=by kernel_rfl
theorem znz:Try.prog.cellsOf 23=1:=by kernel_rfl
theorem trod_i (h:∃ y,DataW.trod enc Try.prog w base spare held fuel 3 cs=some y):∃ n,cs=[.int .i64 n]:=by
  obtain ⟨y,h⟩:=h
  obtain ⟨n,h1,_,h2⟩:=DataW.trod_int Try.underlying3 h
  exact ⟨n,h1⟩
theorem zer (h:∃ y,DataW.trod enc Try.prog w base spare held fuel 28 cs=some y):∃ a b,cs=[.int .i64 a,.int .i64 b]:=by
  obtain ⟨y,h⟩:=h
  obtain ⟨xs,n,rfl,_,hl,hx,hf⟩:=DataW.trod_struct Try.underlying28 h
  rw[zhl] at hl
  have hx:xs.length=2:=hx
  obtain ⟨c0,c1,rfl⟩:=list2 hl
  clear hl
  obtain ⟨a,ha⟩:=trod_i ⟨_,(hf 0 _ rfl).trans (List.getElem?_eq_getElem (by omega))⟩
  obtain ⟨b,hb⟩:=trod_i ⟨_,(hf 1 _ rfl).trans (List.getElem?_eq_getElem (by omega))⟩
  simp[zjn] at ha hb
  exact ⟨a,b,by rw[ha,hb]⟩
def ptR (p:Rd.Pt):List Value:=[.int .i64 p.height.lo,.int .i64 p.height.hi,.int .i64 p.stiff.lo,.int .i64 p.stiff.hi,.int .i64 p.rise.lo,.int .i64 p.rise.hi,.int .i64 p.full]
def evR (v:Rd.Evt):List Value:=[.int .i64 v.kind,.int .i64 v.load.lo,.int .i64 v.load.hi,.int .i64 v.days,.int .i64 v.part,.int .i64 v.shows.lo,.int .i64 v.shows.hi]
theorem zuw (h:∃ y,DataW.trod enc Try.prog w base spare held fuel 56 cs=some y):∃ p,cs=ptR p:=by
  obtain ⟨y,h⟩:=h
  obtain ⟨xs,n,rfl,_,hl,hx,hf⟩:=DataW.trod_struct Try.underlying56 h
  rw[zkv] at hl
  have hx:xs.length=4:=hx
  obtain ⟨c0,c1,c2,c3,c4,c5,c6,rfl⟩:=list7 hl
  clear hl
  obtain ⟨a,b,hab⟩:=zer ⟨_,(hf 0 _ rfl).trans (List.getElem?_eq_getElem (by omega))⟩
  obtain ⟨d,e,hde⟩:=zer ⟨_,(hf 1 _ rfl).trans (List.getElem?_eq_getElem (by omega))⟩
  obtain ⟨f,g,hfg⟩:=zer ⟨_,(hf 2 _ rfl).trans (List.getElem?_eq_getElem (by omega))⟩
  obtain ⟨i,hi⟩:=trod_i ⟨_,(hf 3 _ rfl).trans (List.getElem?_eq_getElem (by omega))⟩
  simp[zhl,zjn] at hab hde hfg hi
  exact ⟨⟨⟨a,b⟩,⟨d,e⟩,⟨f,g⟩,i⟩,by rw[hab.1,hab.2,hde.1,hde.2,hfg.1,hfg.2,hi];rfl⟩
theorem trod_event (h:∃ y,DataW.trod enc Try.prog w base spare held fuel 60 cs=some y):∃ p,cs=evR p:=by
  obtain ⟨y,h⟩:=h
  obtain ⟨xs,n,rfl,_,hl,hx,hf⟩:=DataW.trod_struct Try.underlying60 h
  rw[zjo] at hl
  have hx:xs.length=5:=hx
  obtain ⟨c0,c1,c2,c3,c4,c5,c6,rfl⟩:=list7 hl
  clear hl
  obtain ⟨a,ha⟩:=trod_i ⟨_,(hf 0 _ rfl).trans (List.getElem?_eq_getElem (by omega))⟩
  obtain ⟨d,e,hde⟩:=zer ⟨_,(hf 1 _ rfl).trans (List.getElem?_eq_getElem (by omega))⟩
  obtain ⟨b,hb⟩:=trod_i ⟨_,(hf 2 _ rfl).trans (List.getElem?_eq_getElem (by omega))⟩
  obtain ⟨i,hi⟩:=trod_i ⟨_,(hf 3 _ rfl).trans (List.getElem?_eq_getElem (by omega))⟩
  obtain ⟨f,g,hfg⟩:=zer ⟨_,(hf 4 _ rfl).trans (List.getElem?_eq_getElem (by omega))⟩
  simp[zhl,zjn] at ha hde hb hi hfg
  exact ⟨⟨a,⟨d,e⟩,b,i,⟨f,g⟩⟩,by rw[ha,hde.1,hde.2,hb,hi,hfg.1,hfg.2];rfl⟩
theorem row_vr {α:Type}{t e:TypeId}{k:Nat}(d:α)(g:α→List Value)(G:α→AV)(hk:0<k)(hg:∀ y,(g y).length=k)(hG:∀ y,(G y).cells.length=k)(hv:∀ (y:α) (j:Nat) (x:AV) (r:Value),(G y).cells[j]?=some x→(g y)[j]?=some r→VR w (fun _=>False) nomu x r)
    (ht:Try.prog.underlying t=some (.slice e)) (hc:Try.prog.cellsOf e=k)
    (he:∀ (fuel:Nat) (cs:List Value),(∃ y,DataW.trod enc Try.prog w base spare held fuel e cs=some y)→∃ y,cs=g y)
    (h:∃ y,DataW.trod enc Try.prog w base spare held fuel t cs=some y):
    ∃ (l:List α) (x:Value),cs=[x]∧VR w (fun _=>False) nomu (.vs k (l.map G)) x:=by
  obtain ⟨y,h⟩:=h
  rcases open_slice ht h with ⟨rfl,_⟩|⟨a,len,cap,m,n,D,Pl,rfl,hb,hl,hm,hmm,hx,hi⟩
  · exact ⟨[],_,rfl,.vs0⟩
  · have hml:len≤m:=by rw[hmm];split<;>omega
    have:∀ i,∃ y:α,i<len→∀ j,j<k→∃ r,(g y)[j]?=some r∧w.cell? (a.add (i * k+j))=some r:=by
      intro i
      by_cases hlt:i<len
      · obtain ⟨cs',h1,h2⟩:=hi i (by omega)
        obtain ⟨y,rfl⟩:=he n cs' ⟨_,h2⟩
        rw[hc] at h1
        obtain ⟨_,_,h3⟩:=World.cells?_some h1
        refine ⟨y,fun _ j hj=>⟨(g y)[j]'(by rw[hg];exact hj),List.getElem?_eq_getElem _,?_⟩⟩
        rw[← Go.Deep.add_add,h3 j hj,List.getElem?_eq_getElem (by rw[hg];exact hj)]
      · exact ⟨d,fun h=>absurd h hlt⟩
    obtain ⟨f,hf⟩:=Classical.skolem.1 this
    refine ⟨(List.range len).map f,_,rfl,?_⟩
    by_cases h0:len=0
    · subst h0;exact .vs0
    · obtain ⟨r0,_,h00⟩:=hf 0 (by omega) 0 hk
      have hs:=World.cell?_spot h00
      obtain ⟨b,off,sp⟩:=a
      obtain rfl:sp=none:=by simpa [Addr.add] using hs
      have hadd:∀ u,Addr.add ⟨b,off,none⟩ u=⟨b,off+u,none⟩:=fun u=>by simp[Addr.add]
      have hlen:(((List.range len).map f).map G).length=len:=by simp
      have hat:∀ (i:Nat) (e:AV),(((List.range len).map f).map G)[i]?=some e→i<len∧e=G (f i):=by
        intro i e h
        have hi:i<len:=by have:=(List.getElem?_eq_some_iff.1 h).1;simpa using this
        simp[hi] at h
        exact ⟨hi,h.symm⟩
      have key:VR w (fun _=>False) nomu (.vs k (((List.range len).map f).map G)) (.slice (some ⟨b,off,none⟩) (((List.range len).map f).map G).length cap):=by
        refine .vs (fun i j=>(g (f i)).getD j .nilFunc) (by rw[hlen];exact hl) (fun i e h=>?_) (fun i e j x h hx=>⟨id,?_⟩) (fun i e j x h hx=>?_)
        · obtain ⟨_,rfl⟩:=hat i e h;exact hG _
        · obtain ⟨hi,rfl⟩:=hat i e h
          have hj:j<k:=by have:=(List.getElem?_eq_some_iff.1 hx).1;rwa [hG] at this
          obtain ⟨r,h1,h2⟩:=hf i hi j hj
          rw[hadd,← Nat.add_assoc] at h2
          rw[h2,List.getD_eq_getElem?_getD,h1];rfl
        · obtain ⟨hi,rfl⟩:=hat i e h
          have hj:j<k:=by have:=(List.getElem?_eq_some_iff.1 hx).1;rwa [hG] at this
          obtain ⟨r,h1,h2⟩:=hf i hi j hj
          rw[List.getD_eq_getElem?_getD,h1]
          exact hv _ j x r hx h1
      rw[hlen] at key
      exact key
theorem zpx {l:List AV}{m:List Value}(h:∀ (j:Nat) (x:AV) (r:Value),l[j]?=some x→m[j]?=some r→∃ n,x=.int .i64 n∧r=.int .i64 n)(j:Nat)(x:AV)(r:Value)(h1:l[j]?=some x)(h2:m[j]?=some r):VR w (fun _=>False) nomu x r:=by
  obtain ⟨n,rfl,rfl⟩:=h j x r h1 h2;exact .int
theorem zrx (h:∃ y,DataW.trod enc Try.prog w base spare held fuel 22 cs=some y):∃ (l:List Rd.Pt) (x:Value),cs=[x]∧VR w (fun _=>False) nomu (.vs 7 (l.map ptE)) x:=
  row_vr (k := 7) default ptR ptE (by decide) (fun _ => rfl) (fun _ => rfl) (fun y => zpx fun j x r h1 h2 => by
    match j,h1,h2 with
    |0,h1,h2=>cases h1;cases h2;exact ⟨_,rfl,rfl⟩
    |1,h1,h2=>cases h1;cases h2;exact ⟨_,rfl,rfl⟩
    |2,h1,h2=>cases h1;cases h2;exact ⟨_,rfl,rfl⟩
    |3,h1,h2=>cases h1;cases h2;exact ⟨_,rfl,rfl⟩
    |4,h1,h2=>cases h1;cases h2;exact ⟨_,rfl,rfl⟩
    |5,h1,h2=>cases h1;cases h2;exact ⟨_,rfl,rfl⟩
    |6,h1,h2=>cases h1;cases h2;exact ⟨_,rfl,rfl⟩
    |j+7,h1,h2=>simp[ptR] at h2) Try.underlying22 zkv (fun _ _ h=>zuw h) h
theorem zoh (h:∃ y,DataW.trod enc Try.prog w base spare held fuel 23 cs=some y):∃ (l:List Rd.Evt) (x:Value),cs=[x]∧VR w (fun _=>False) nomu (.vs 7 (l.map evE)) x:=
  row_vr (k := 7) default evR evE (by decide) (fun _ => rfl) (fun _ => rfl) (fun y => zpx fun j x r h1 h2 => by
    match j,h1,h2 with
    |0,h1,h2=>cases h1;cases h2;exact ⟨_,rfl,rfl⟩
    |1,h1,h2=>cases h1;cases h2;exact ⟨_,rfl,rfl⟩
    |2,h1,h2=>cases h1;cases h2;exact ⟨_,rfl,rfl⟩
    |3,h1,h2=>cases h1;cases h2;exact ⟨_,rfl,rfl⟩
    |4,h1,h2=>cases h1;cases h2;exact ⟨_,rfl,rfl⟩
    |5,h1,h2=>cases h1;cases h2;exact ⟨_,rfl,rfl⟩
    |6,h1,h2=>cases h1;cases h2;exact ⟨_,rfl,rfl⟩
    |j+7,h1,h2=>simp[evR] at h2) Try.underlying23 zjo (fun _ _ h=>trod_event h) h
theorem trod_road (h:∃ y,DataW.trod enc Try.prog w base spare held fuel 25 cs=some y):∃ r:Rd.Road,VR w (fun _=>False) nomu (.agg (roadCs r)) (.agg cs.toArray):=by
  obtain ⟨y,h⟩:=h
  obtain ⟨xs,n,rfl,_,hl,hx,hf⟩:=DataW.trod_struct Try.underlying25 h
  rw[zud] at hl
  have hx:xs.length=2:=hx
  obtain ⟨c0,c1,rfl⟩:=list2 hl
  clear hl
  obtain ⟨ps,x,hp,hvp⟩:=zrx ⟨_,(hf 0 _ rfl).trans (List.getElem?_eq_getElem (by omega))⟩
  obtain ⟨es,z,he,hve⟩:=zoh ⟨_,(hf 1 _ rfl).trans (List.getElem?_eq_getElem (by omega))⟩
  simp[zpn,znz] at hp he
  rw[hp,he]
  refine ⟨⟨ps,es⟩,.agg rfl fun i v r h1 h2=>?_⟩
  match i,h1,h2 with
  |0,h1,h2=>cases h1;cases h2;exact hvp
  |1,h1,h2=>cases h1;cases h2;exact hve
  |i+2,h1,h2=>simp at h2
end
end Ro
end Ev
end Go.Proofs.Ytlcjlcllbgjplaa

/- What the rows of chapter 05 share. -/
namespace Go.Proofs.Ytlcjlcllbgjplaa
open Go Go.Proofs Go.ChangeShapes Go.WideShapes Go.ChangeAt Go.RowKit
namespace Ev
namespace Ro
open K
theorem ydk {w:Value}{b:Bool}(h:∀ W L μ,VR W L μ (.bool b) w)(W:World):w=.bool b:=by
  have:=h W (fun _=>False) nomu
  cases this with
  |dead h1=>cases h1
  |bool=>rfl
end Ro
end Ev
set_option maxRecDepth 100000 in
theorem zoo:ownKnob Try.prog.godebug=none:=by kernel_rfl
set_option maxRecDepth 100000 in
theorem laidOut':laidOutB Try.prog=true:=by kernel_rfl
def noRoad:Value:=.agg #[.slice none 0 0,.slice none 0 0]
set_option maxRecDepth 100000 in
theorem zwg {H:Type}{enc:TypeId × Value→H}{W:World}{v:Value}{d:DataW H}{p:List MemPlace}{base:Nat}
    (hv:Value.okWide Try.prog W .any base 25 v) (h:DataW.Trod enc Try.prog W 0 (fun _=>true) true 25 v d p):∃ r:Rd.Road,Ev.VR W (fun _=>False) Ev.nomu (.agg (Ev.Ro.roadCs r)) v:=by
  obtain ⟨cs,rfl,_⟩:=okWide_struct Try.underlying25 hv
  obtain ⟨fuel,hf⟩:=h
  obtain ⟨c,hc⟩:=Ev.Ro.trod_road (cs:=cs.toList) ⟨_,hf⟩
  exact ⟨c,by simpa using hc⟩
set_option maxRecDepth 100000 in
theorem zwh {H:Type}{enc:TypeId × Value→H}{W:World}{v:Value}{d:DataW H}{p:List MemPlace}{base:Nat}
    (hv:Value.okWide Try.prog W .any base 60 v) (h:DataW.Trod enc Try.prog W 0 (fun _=>true) true 60 v d p):∃ c:Rd.Evt,Ev.VR W (fun _=>False) Ev.nomu (Ev.Ro.evE c) v:=by
  obtain ⟨cs,rfl,_⟩:=okWide_struct Try.underlying60 hv
  obtain ⟨fuel,hf⟩:=h
  obtain ⟨c,hc⟩:=Ev.Ro.trod_event (cs:=cs.toList) ⟨_,hf⟩
  have hc':cs=(Ev.Ro.evR c).toArray:=by rw[← hc]
  rw[hc']
  refine ⟨c,.agg rfl fun i v r h1 h2=>?_⟩
  match i,h1,h2 with
  |0,h1,h2=>cases h1;cases h2;exact .int
  |1,h1,h2=>cases h1;cases h2;exact .int
  |2,h1,h2=>cases h1;cases h2;exact .int
  |3,h1,h2=>cases h1;cases h2;exact .int
  |4,h1,h2=>cases h1;cases h2;exact .int
  |5,h1,h2=>cases h1;cases h2;exact .int
  |6,h1,h2=>cases h1;cases h2;exact .int
  |i+7,h1,h2=>simp[Ev.Ro.evR] at h2
theorem zoa {n:Int}(h:(Lit.int .u8 n).wf=true):0≤n∧n≤255:=by
  simp[Lit.wf,IntKind.min,IntKind.max,IntKind.signed,IntKind.bits] at h
  omega
end Go.Proofs.Ytlcjlcllbgjplaa
