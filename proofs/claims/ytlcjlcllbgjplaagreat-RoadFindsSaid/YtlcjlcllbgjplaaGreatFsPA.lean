/- What walks of packages share: rules, and facts of numbers and blocks. -/
import Derived.Test.YtlcjlcllbgjplaaGreatFsEA
import Derived.CallsIn
/- The evaluator, gone through with values that are not known: temporaries as lists of pairs, rules for code. -/
namespace Go.Proofs.YtlcjlcllbgjplaaGreat
open Go
namespace Ev
def tmA (N:Nat):List (Nat × AV)→List AV
  |[]=>List.replicate N .unk
  |(t,v)::l=>(tmA N l).set t v
@[simp] theorem zlk (N:Nat):∀ l,(tmA N l).length=N
  |[]=>by simp[tmA]
  |(t,v)::l=>by simp[tmA,zlk N l]
theorem zaa (N t t':Nat)(v:AV)(l:List (Nat × AV)):(tmA N ((t,v)::l)).getD t' .unk=if t'=t then (if t<N then v else .unk) else (tmA N l).getD t' .unk:=by
  simp only[tmA,List.getD_eq_getElem?_getD,List.getElem?_set,zlk]
  by_cases h:t=t'
  · subst h;simp;split<;>simp
  · rw[if_neg h,if_neg fun e=>h e.symm]
theorem zjn (N t:Nat):(tmA N []).getD t .unk=.unk:=by
  simp only[tmA,List.getD_eq_getElem?_getD,List.getElem?_replicate]
  split<;>rfl
theorem zab (C:Cfg)(N t t':Nat)(v:AV)(l:List (Nat × AV)):val C (tmA N ((t,v)::l)) (.tmp t')=if t'=t then (if t<N then v else .unk) else val C (tmA N l) (.tmp t'):=zaa N t t' v l
theorem zae (C:Cfg)(N t:Nat):val C (tmA N []) (.tmp t)=.unk:=zjn N t
theorem zau (C:Cfg)(tm:List AV)(v:AV):val C tm (.val v)=v:=rfl
theorem zah (N t:Nat)(v:AV)(l:List (Nat × AV)):putT (tmA N l) (some t) v=tmA N ((t,v)::l):=rfl
theorem zai (tm:List AV)(v:AV):putT tm none v=tm:=rfl
def zipI:Nat→List AV→List (Nat × AV)→List (Nat × AV)
  |_,[],acc=>acc
  |i,v::l,acc=>zipI (i+1) l ((i,v)::acc)
theorem zkm (N:Nat)(f:Nat→AV):∀ (live:List Nat) (acc:List (Nat × AV)),live.foldl (fun a t=>a.set t (f t)) (tmA N acc)=tmA N (live.foldl (fun a t=>(t,f t)::a) acc)
  |[],_=>rfl
  |t::l,acc=>by
    simp only[List.foldl_cons]
    exact zkm N f l ((t,f t)::acc)
def lk (N:Nat)(l:List (Nat × AV))(t:Nat):AV:=(tmA N l).getD t .unk
theorem zal (N t t':Nat)(v:AV)(l:List (Nat × AV)):lk N ((t,v)::l) t'=if t'=t then (if t<N then v else .unk) else lk N l t':=zaa N t t' v l
theorem yag (N:Nat)(l:List (Nat × AV))(t:Nat):(tmA N l).getD t .unk=lk N l t:=rfl
theorem zag (N:Nat)(live:List Nat)(l:List (Nat × AV)):keepT live (tmA N l)=tmA N (live.foldl (fun a t=>(t,lk N l t)::a) []):=by
  unfold keepT
  rw[zlk]
  exact zkm N (fun t=>(tmA N l).getD t .unk) live []
theorem zrq (N:Nat):∀ (args:List AV) (i:Nat) (acc:List (Nat × AV)),tmA N (zipI i args acc)=(args.zipIdx i).foldl (fun tm p=>tm.set p.2 p.1) (tmA N acc)
  |[],_,_=>rfl
  |v::l,i,acc=>by
    simp only[zipI,List.zipIdx_cons,List.foldl_cons]
    exact zrq N l (i+1) ((i,v)::acc)
theorem zns:∀ (args pre:List AV) (m:Nat),args.length≤m→(args.zipIdx pre.length).foldl (fun tm p=>tm.set p.2 p.1) (pre++List.replicate m AV.unk)=pre++(args++List.replicate (m - args.length) .unk)
  |[],pre,m,_=>by simp
  |v::l,pre,0,h=>by simp at h
  |v::l,pre,m+1,h=>by
    simp only[List.zipIdx_cons,List.foldl_cons]
    have e:(pre++List.replicate (m+1) AV.unk).set pre.length v=(pre++[v])++List.replicate m .unk:=by
      rw[List.set_append_right _ _ (Nat.le_refl _),Nat.sub_self,List.replicate_succ]
      simp
    rw[e]
    have:=zns l (pre++[v]) m (by simpa using h)
    simp only[List.length_append,List.length_cons,List.length_nil,Nat.zero_add] at this
    rw[this]
    simp
theorem zyu {N:Nat}{args:List AV}(h:args.length≤N):args++List.replicate (N - args.length) .unk=tmA N (zipI 0 args []):=by
  rw[zrq]
  have:=zns args [] N h
  simp only[List.length_nil,List.nil_append] at this
  rw[← this];rfl

theorem nat_nn (d:Nat):((d:Int)<0)=False:=by simp

def Does (o:Option (AExit × St))(Q:AExit→St→Prop):Prop:=∃ e st,o=some (e,st)∧Q e st
def DoesO (o:Option (Option AV × St))(Q:Option AV→St→Prop):Prop:=∃ r st,o=some (r,st)∧Q r st
theorem Does.mono {o:Option (AExit × St)}{Q R:AExit→St→Prop}(h:Does o Q)(k:∀ e st,Q e st→R e st):Does o R:=by
  obtain ⟨e,st,h1,h2⟩:=h;exact ⟨e,st,h1,k e st h2⟩
section
variable {C:Cfg} {call:CallF} {pin:Nat} {rd:Option Nat} {Q:AExit→St→Prop} {st:St} {a b c:AC}
def Then (C:Cfg)(call:CallF)(pin:Nat)(rd:Option Nat)(b:AC)(Q:AExit→St→Prop):AExit→St→Prop
  |.normal,st=>Does (ev C call pin rd b st) Q
  |e,st=>Q e st
def OutB (id:Nat)(Q:AExit→St→Prop):AExit→St→Prop
  |.exit i,st=>if i=id then Q .normal st else Q (.exit i) st
  |e,st=>Q e st
def Ops (Q:AExit→St→Prop):Option AV→St→Prop
  |none,st=>Q .normal st
  |some v,st=>Q (.panic v) st
theorem zaq (h:Q .normal st):Does (ev C call pin rd .skip st) Q:=⟨_,_,rfl,h⟩
theorem zar {id:Nat}(h:Q (.exit id) st):Does (ev C call pin rd (.exit id) st) Q:=⟨_,_,rfl,h⟩
theorem zax (h:Q .ret st):Does (ev C call pin rd .ret st) Q:=⟨_,_,rfl,h⟩
theorem zaw (h:Does (ev C call pin rd a st) (Then C call pin rd b Q)):Does (ev C call pin rd (.seq a b) st) Q:=by
  obtain ⟨e,st1,h1,h2⟩:=h
  unfold Does
  simp only[ev,h1]
  cases e<;>simp only[Then] at h2
  · exact h2
  · exact ⟨_,_,rfl,h2⟩
  · exact ⟨_,_,rfl,h2⟩
  · exact ⟨_,_,rfl,h2⟩
theorem zap {x:Opnd}(hx:val C st.tm x=.bool true)(h:Does (ev C call pin rd a st) Q):Does (ev C call pin rd (.cond x a b) st) Q:=by
  unfold Does at h ⊢
  simp only[ev,hx,cond_true]
  exact h
theorem zam {x:Opnd}(hx:val C st.tm x=.bool false)(h:Does (ev C call pin rd b st) Q):Does (ev C call pin rd (.cond x a b) st) Q:=by
  unfold Does at h ⊢
  simp only[ev,hx,cond_false]
  exact h
theorem zao {id:Nat}(h:Does (ev C call pin rd a st) (OutB id Q)):Does (ev C call pin rd (.block id a) st) Q:=by
  obtain ⟨e,st1,h1,h2⟩:=h
  unfold Does
  simp only[ev,h1]
  cases e with
  |exit i=>
    simp only[OutB] at h2
    split at h2
    · rename_i hi;simp only[hi,if_true];exact ⟨_,_,rfl,h2⟩
    · rename_i hi;simp only[hi,if_false];exact ⟨_,_,rfl,h2⟩
  |normal=>exact ⟨_,_,rfl,h2⟩
  |ret=>exact ⟨_,_,rfl,h2⟩
  |panic v=>exact ⟨_,_,rfl,h2⟩
theorem zay {l:List AOp}(h:DoesO (evOps C call pin rd.isSome false l [] st) (Ops Q)):Does (ev C call pin rd (.ops l) st) Q:=by
  obtain ⟨r,st1,h1,h2⟩:=h
  unfold Does
  simp only[ev,h1,Option.map_some]
  cases r with
  |none=>exact ⟨_,_,rfl,h2⟩
  |some v=>exact ⟨_,_,rfl,h2⟩
theorem zas {l:List AOp}(h:DoesO (evOps C call pin rd.isSome true l [] st) (fun r st=>match r with|none=>Q .normal st|some v=>Q (.panic v) { st with tm:=forget (l.filterMap (·.dst)) st.tm })):Does (ev C call pin rd (.draw l) st) Q:=by
  obtain ⟨r,st1,h1,h2⟩:=h
  unfold Does
  simp only[ev,h1,Option.map_some]
  cases r with
  |none=>exact ⟨_,_,rfl,h2⟩
  |some v=>exact ⟨_,_,rfl,h2⟩
variable {nod drawn:Bool} {fl:List (Nat × List Nat)} {R:Option AV→St→Prop} {o:AOp} {l:List AOp}
theorem zaz (h:R none st):DoesO (evOps C call pin nod drawn [] fl st) R:=⟨_,_,rfl,h⟩
theorem zak {ft:Option (List Nat)}{st1:St}(h1:ev1 C call pin nod drawn fl o st=some (.next ft st1))(h:DoesO (evOps C call pin nod drawn l (addFl o.ix ft fl) st1) R):DoesO (evOps C call pin nod drawn (o::l) fl st) R:=by
  unfold DoesO at h ⊢
  simp only[evOps,h1]
  exact h
theorem zgq {v:AV}{st1:St}(h1:ev1 C call pin nod drawn fl o st=some (.pan v st1))(h:R (some v) st1):DoesO (evOps C call pin nod drawn (o::l) fl st) R:=by
  unfold DoesO
  simp only[evOps,h1]
  exact ⟨_,_,rfl,h⟩
theorem zhe {live:List Nat}(I:Nat→St→Prop)(k:Nat)(hk:k<fuelL)(h0:I k (gcC C pin { st with tm:=keepT live st.tm }))
    (hround:∀ k st,I k st→Does (ev C call pin rd c st) (fun e st'=>match e with|.normal=>∃ k',k=k'+1∧I k' (gcC C pin { st' with tm:=keepT live st'.tm })|e=>Q e st')):Does (ev C call pin rd (.loop live c) st) Q:=by
  have main:∀ (n k:Nat) (st:St),k<n→I k (gcC C pin { st with tm:=keepT live st.tm })→∃ e st',loopN (ev C call pin rd c) (fun st=>gcC C pin { st with tm:=keepT live st.tm }) n st=some (e,st')∧Q e st':=by
    intro n
    induction n with
    |zero=>intro k st hk;omega
    |succ n ih=>
      intro k st hk hI
      obtain ⟨e,st1,h1,h2⟩:=hround k _ hI
      simp only[loopN,h1]
      cases e with
      |normal=>
        obtain ⟨k',rfl,h3⟩:=h2
        exact ih k' st1 (by omega) h3
      |exit i=>exact ⟨_,_,rfl,h2⟩
      |ret=>exact ⟨_,_,rfl,h2⟩
      |panic v=>exact ⟨_,_,rfl,h2⟩
  obtain ⟨e,st',h1,h2⟩:=main fuelL k st hk h0
  unfold Does
  simp only[ev]
  exact ⟨e,st',h1,h2⟩
end
theorem zdj {C:Cfg}(h:C.calm=true)(pin:Nat)(st:St):gcC C pin st=st:=by
  unfold gcC;rw[h];rfl
theorem zea {C:Cfg}(h:C.calm=true)(pin:Nat)(x:CRes)(hp:List AB):tidyC C pin x hp=(x,hp):=by
  unfold tidyC;rw[h];rfl

def CallsTo (C:Cfg)(n:Nat)(f:AV)(args:List AV)(H:List AB)(R:CRes→List AB→List Nat→Prop):Prop:=∃ x H' tc,Ev.call C n f args H=some (x,H',tc)∧R x H' tc
def Left (H:List AB)(x:CRes)(st:St)(R:CRes→List AB→List Nat→Prop):Prop:=if bareQ x.val st.tc then R x H [] else R x (overH H st.hp st.tc++st.hp.drop H.length) st.tc
theorem yar {C:Cfg}{n f:Nat}{first captured args:List AV}{H:List AB}{R:CRes→List AB→List Nat→Prop}{fn:AFunc}(hc:C.calm=true)(hx:C.ext f=none)(hxh:C.exth f=none)(hf:C.fns f=some fn)(hw:C.whole f=true)
    (hlen:(first++args++captured).length≤fn.ntmps)
    (h:Does (ev C (Ev.call C n) H.length none fn.body { tm:=tmA fn.ntmps (zipI 0 (first++args++captured) []),df:=[],hp:=H,tc:=[] }) fun e st=>∃ x st',finish C H.length fn e st=some (x,st')∧Left H x st' R):
    CallsTo C (n+1) (.fn (.func f) first captured) args H R:=by
  obtain ⟨e,st,h1,x,st',h2,h3⟩:=h
  unfold CallsTo
  simp only[Ev.call,enter,hx,hxh,hf,hw,cond_true]
  rw[zyu hlen,h1]
  simp only[h2]
  unfold Left at h3
  split at h3
  · rename_i hb;rw[hb];exact ⟨_,_,_,rfl,h3⟩
  · rename_i hb
    rw[Bool.not_eq_true] at hb
    rw[hb]
    simp only[cond_false,zea hc]
    exact ⟨_,_,_,rfl,h3⟩
section
variable {C:Cfg} {call:CallF} {pin:Nat} {rd:Option Nat} {Q:AExit→St→Prop} {st:St}
def RgEnd (pin l:Nat)(df:List ADef)(st:St)(Q:AExit→St→Prop):CRes→List AB→List Nat→Prop
  |.ret _,H,tc=>∃ r,H[l]?=some (.loop r)∧r.st≠.busy∧Q (r.pend.getD .normal) { st with df:=df,hp:=H.set l .dead,tc:=tc.filter (·<pin)++st.tc }
  |.pan v,H,tc=>Q (.panic v) { st with df:=df,hp:=H,tc:=tc.filter (·<pin)++st.tc }
theorem zqt {g:Opnd}{ps:List Nat}{as bd:AC}{gf:Nat}{first captured:List AV}(hg:val C st.tm g=.fn (.func gf) first captured)
    (h:∃ x H tc,call (.fn (.func gf) first captured) [.yield (st.hp.length+1)] (st.hp++[.dfr]++[.loop ⟨.ready,none,st.tm,ps,as,bd,st.hp.length⟩])=some (x,H,tc)∧RgEnd pin (st.hp.length+1) (.mark st.hp.length::st.df) st Q x H tc):
    Does (ev C call pin none (.rangeF g ps as bd) st) Q:=by
  obtain ⟨x,H,tc,h1,h2⟩:=h
  unfold Does
  simp only[ev,hg,List.length_append,List.length_cons,List.length_nil,Nat.zero_add]
  rw[h1]
  cases x with
  |ret w=>
    obtain ⟨r,e1,e2,e3⟩:=h2
    simp only[e1,e2,if_false]
    exact ⟨_,_,rfl,e3⟩
  |pan w=>exact ⟨_,_,rfl,h2⟩
end
def RdEnd (l:Nat)(H:List AB)(R:CRes→List AB→List Nat→Prop):AExit→St→Prop
  |.panic _,_=>False
  |.normal,st=>∃ r,st.hp[l]?=some (.loop r)∧R (.ret (.bool true)) (overH H (st.hp.set l (.loop { r with st:=.ready,pend:=none })) (l::st.tc)++(st.hp.set l (.loop { r with st:=.ready,pend:=none })).drop H.length) (l::st.tc)
  |e,st=>∃ r,st.hp[l]?=some (.loop r)∧R (.ret (.bool false)) (overH H (st.hp.set l (.loop { r with st:=.done,pend:=some e })) (l::st.tc)++(st.hp.set l (.loop { r with st:=.done,pend:=some e })).drop H.length) (l::st.tc)
theorem zxg {C:Cfg}{n l:Nat}{args:List AV}{H:List AB}{R:CRes→List AB→List Nat→Prop}{r:ALoop}(hc:C.calm=true)(hl:H[l]?=some (.loop r))(hr:r.st=.ready)(hn:args.length=r.params.length)
    (h : Does (ev C (Ev.call C n) H.length (some l) r.assign { tm := setParams r.tm r.params args, df := [], hp := H, tc := [] }) fun e st => e = .normal ∧ ∃ r1, st.hp[l]? = some (.loop r1) ∧ r1.st = .ready ∧
      Does (ev C (Ev.call C n) H.length (some l) r.body { st with hp:=st.hp.set l (.loop { r1 with st:=.busy }),tc:=l::st.tc }) (RdEnd l H R)):
    CallsTo C (n+1) (.yield l) args H R:=by
  obtain ⟨e,st,h1,rfl,r1,h2,h3,e2,st2,h4,h5⟩:=h
  unfold CallsTo
  simp only[Ev.call,round,hl,hr,hn,and_self,if_true,h1,h2,h3,h4]
  cases e2 with
  |panic v=>exact h5.elim
  |normal=>
    obtain ⟨r2,e1,e2⟩:=h5
    simp only[e1,Option.isNone_none,if_true,zea hc]
    exact ⟨_,_,_,rfl,e2⟩
  |exit i=>
    obtain ⟨r2,e1,e2⟩:=h5
    simp only[e1,Option.isNone_some,Bool.false_eq_true,if_false,zea hc]
    exact ⟨_,_,_,rfl,e2⟩
  |ret=>
    obtain ⟨r2,e1,e2⟩:=h5
    simp only[e1,Option.isNone_some,Bool.false_eq_true,if_false,zea hc]
    exact ⟨_,_,_,rfl,e2⟩
theorem zpw (H hp:List AB)(j:Nat)(tc:List Nat):overH H hp (j::tc)=(overH H hp tc).set j (hp.getD j .dead):=rfl
theorem zbi (H hp:List AB):∀ tc,(overH H hp tc).length=H.length
  |[]=>rfl
  |j::tc=>by simp[overH,zbi H hp tc]
structure Kp (S:List Nat) (H H':List AB):Prop where
  len:H.length≤H'.length
  get:∀ b,b<H.length→b∉S→H'[b]?=H[b]?
theorem Kp.refl (S:List Nat)(H:List AB):Kp S H H:=⟨Nat.le_refl _,fun _ _ _=>rfl⟩
theorem Kp.trans {S:List Nat}{H G K:List AB}(h:Kp S H G)(g:Kp S G K):Kp S H K:=
  ⟨Nat.le_trans h.len g.len,fun b hb hs=>(g.get b (Nat.lt_of_lt_of_le hb h.len) hs).trans (h.get b hb hs)⟩
theorem Kp.mono {S T:List Nat}{H G:List AB}(h:Kp S H G)(hs:∀ b,b<H.length→b∈S→b∈T):Kp T H G:=⟨h.len,fun b hb hn=>h.get b hb fun hh=>hn (hs b hb hh)⟩
theorem Kp.trans2 {S T:List Nat}{H G K:List AB}(h:Kp S H G)(g:Kp T G K):Kp (T.filter (·<H.length)++S) H K:=
  ⟨Nat.le_trans h.len g.len, fun b hb hs => by
    rw[List.mem_append,List.mem_filter,not_or] at hs
    exact (g.get b (Nat.lt_of_lt_of_le hb h.len) fun h'=>hs.1 ⟨h',by simpa using hb⟩).trans (h.get b hb hs.2)⟩
theorem Kp.app {S:List Nat}(H K:List AB):Kp S H (H++K):=⟨by simp,fun b hb _=>List.getElem?_append_left hb⟩
theorem Kp.set {S:List Nat}{H G:List AB}(h:Kp S H G)(i:Nat)(v:AB)(hi:i<H.length→i∈S):Kp S H (G.set i v):=
  ⟨by simpa using h.len, fun b hb hs => by
    rw[List.getElem?_set_ne (fun e=>by subst e;exact hs (hi hb))];exact h.get b hb hs⟩
theorem Kp.pre {S:List Nat}{H K G:List AB}(h:Kp S (H++K) G):Kp S H G:=(Kp.app H K).trans h
theorem get_lt {H:List AB}{b:Nat}{x:AB}(h:H[b]?=some x):b<H.length:=(List.getElem?_eq_some_iff.1 h).1
theorem Kp.at {S:List Nat}{H G:List AB}(h:Kp S H G){b:Nat}{x:AB}(hx:H[b]?=some x)(hb:b∉S):G[b]?=some x:=(h.get b (get_lt hx) hb).trans hx
theorem bk {H:List AB}{b:Nat}{x:AB}(h:H[b]?=some x):b<H.length∧(∀ K,(H++K)[b]?=some x)∧(∀ n,b<H.length+n)∧(∀ K (h:b<(H++K).length),(H++K)[b]'h=x)∧(∀ h:b<H.length,H[b]'h=x):=by
  have hl:=get_lt h
  have h1:∀ K,(H++K)[b]?=some x:=fun K=>(List.getElem?_append_left hl).trans h
  refine ⟨hl,h1,fun n=>by omega,fun K hk=>?_,fun hh=>?_⟩
  · have:=h1 K;rw[List.getElem?_eq_getElem hk] at this;exact Option.some.inj this
  · rw[List.getElem?_eq_getElem hh] at h;exact Option.some.inj h
structure Bk (H:List AB) (b:Nat) (x:AB):Prop where
  lt:b<H.length
  get:H[b]?=some x
  app:∀ K,(H++K)[b]?=some x
  lts:∀ n,b<H.length+n
  ix:∀ K (h:b<(H++K).length),(H++K)[b]'h=x
  i0:∀ h:b<H.length,H[b]'h=x
theorem bk' {H:List AB}{b:Nat}{x:AB}(h:H[b]?=some x):Bk H b x:=⟨(bk h).1,h,(bk h).2.1,(bk h).2.2.1,(bk h).2.2.2.1,(bk h).2.2.2.2⟩
structure Lft (H hp:List AB) (tc:List Nat) (H':List AB):Prop where
  len:H.length≤H'.length
  old:∀ j,j<H.length→j∉tc→H'[j]?=H[j]?
  got:∀ j,j<H.length→j∈tc→H'[j]?=hp[j]?
theorem zgf {H hp:List AB}{tc:List Nat}(hlen:H.length≤hp.length)(j:Nat):(overH H hp tc++hp.drop H.length)[j]?=if j<H.length∧j∉tc then H[j]? else hp[j]?:=by
  have main:∀ tc j,(overH H hp tc)[j]?=if j<H.length then (if j∈tc then hp[j]? else H[j]?) else none:=by
    intro tc
    induction tc with
    |nil=>
      intro j
      simp only[overH,List.not_mem_nil,if_false]
      split
      · rfl
      · rename_i h;rw[List.getElem?_eq_none (by omega)]
    |cons k tc ih=>
      intro j
      simp only[overH,List.getElem?_set,zbi,List.mem_cons]
      by_cases hkj:k=j
      · subst hkj
        by_cases hk:k<H.length
        · simp only[hk,if_true,true_or]
          rw[List.getD_eq_getElem?_getD,List.getElem?_eq_getElem (by omega)];rfl
        · simp only[hk,if_false,if_true]
      · have hjk:¬j=k:=fun e=>hkj e.symm
        simp only[hkj,hjk,if_false,ih,false_or]
  rw[List.getElem?_append,zbi]
  by_cases hj:j<H.length
  · rw[if_pos hj,main,if_pos hj]
    by_cases ht:j∈tc
    · simp[ht]
    · simp[ht,hj]
  · rw[if_neg hj,if_neg (by simp[hj]),List.getElem?_drop]
    congr 1;omega
theorem zyb {H hp:List AB}{tc:List Nat}(hlen:H.length≤hp.length):Lft H hp tc (overH H hp tc++hp.drop H.length):=
  ⟨by simp[zbi],fun j h1 h2=>by rw[zgf hlen,if_pos ⟨h1,h2⟩],fun j h1 h2=>by rw[zgf hlen,if_neg (by simp[h2])]⟩
theorem Lft.kp {H hp:List AB}{tc:List Nat}{H':List AB}(h:Lft H hp tc H'):Kp tc H H':=⟨h.len,h.old⟩
theorem Lft.same {H hp:List AB}{tc:List Nat}{H':List AB}(h:Lft H hp tc H')(k:Kp tc H hp)(j:Nat)(hj:j<H.length):H'[j]?=hp[j]?:=by
  by_cases ht:j∈tc
  · exact h.got j hj ht
  · rw[h.old j hj ht,k.get j hj ht]
theorem znl {C:Cfg}{n f:Nat}{fn:AFunc}{first captured args:List AV}{H:List AB}{Q:CRes→List AB→List Nat→Prop}(hc:C.calm=true)(hx:C.ext f=none)(hxh:C.exth f=none)(hf:C.fns f=some fn)(hw:C.whole f=true)
    (hlen:(first++args++captured).length≤fn.ntmps)
    (h:Does (ev C (Ev.call C n) H.length none fn.body { tm:=tmA fn.ntmps (zipI 0 (first++args++captured) []),df:=[],hp:=H,tc:=[] }) fun e st=>∃ x st',finish C H.length fn e st=some (x,st')∧H.length≤st'.hp.length∧Q x st'.hp st'.tc):
    ∃ x hp tc H',Ev.call C (n+1) (.fn (.func f) first captured) args H=some (x,H',tc)∧Q x hp tc∧Lft H hp tc H'∧(refs x.val≠[]∨tc≠[]→H'.length=hp.length∧∀ j,H.length≤j→H'[j]?=hp[j]?)∧(refs x.val=[]→tc=[]→H'=H):=by
  have := yar (n := n) (R := fun x H' tc => ∃ hp, Q x hp tc ∧ Lft H hp tc H' ∧ (refs x.val ≠ [] ∨ tc ≠ [] → H'.length = hp.length ∧ ∀ j, H.length ≤ j → H'[j]? = hp[j]?) ∧ (refs x.val = [] → tc = [] → H' = H)) hc hx hxh hf hw hlen (by
    refine h.mono fun e st ⟨x,st',h1,h2,h3⟩=>⟨x,st',h1,?_⟩
    unfold Left
    split
    · rename_i hb
      simp only[bareQ,Bool.and_eq_true,List.isEmpty_iff] at hb
      rw[hb.1] at h3
      exact ⟨_,h3,⟨Nat.le_refl _,fun _ _ _=>rfl,fun j _ hj=>by cases hj⟩,fun hr=>hr.elim (absurd hb.2) (absurd rfl),fun _ _=>rfl⟩
    · rename_i hb
      exact ⟨_,h3,zyb h2,fun _=>⟨by simp[zbi];omega,fun j hj=>by rw[zgf h2,if_neg (by omega)]⟩,fun h1 h2=>absurd (by simp[bareQ,h1,h2]) hb⟩)
  obtain ⟨x,H',tc,h1,hp,h2,h3,h4⟩:=this
  exact ⟨x,hp,tc,H',h1,h2,h3,h4⟩
def Ends (C:Cfg)(pin:Nat)(res:List ARes)(Q:AV→List AB→List Nat→Prop)(e:AExit)(st:St):Prop:=
  (e=.ret∨e=.normal)∧∃ st',runDefs C pin st.df none st=some (none,st')∧pin≤st'.hp.length∧∃ v,(resL st' res).map resV=some v∧Q v st'.hp st'.tc
theorem zeo {C:Cfg}{pin:Nat}{fn:AFunc}{Q:AV→List AB→List Nat→Prop}{e:AExit}{st:St}(h:Ends C pin fn.res Q e st):∃ x st',finish C pin fn e st=some (x,st')∧pin≤st'.hp.length∧(∃ v,x=.ret v∧Q v st'.hp st'.tc):=by
  obtain ⟨he,st',h1,h2,v,h3,h4⟩:=h
  refine ⟨.ret v,st',?_,h2,v,rfl,h4⟩
  have : (match runDefs C pin st.df none st with
    |some (none,st)=>(resL st fn.res).map fun vs=>(CRes.ret (resV vs),st)
    |_=>none)=some (.ret v,st'):=by
    rw[h1]
    simp only
    cases hr:resL st' fn.res with
    |none=>rw[hr] at h3;cases h3
    |some vs=>rw[hr] at h3;cases h3;rfl
  rcases he with rfl|rfl<;>exact this
theorem zac {C:Cfg}{pin:Nat}{res:List ARes}{Q:AV→List AB→List Nat→Prop}{e:AExit}{st:St}{v:AV}(he:e=.ret∨e=.normal)(hd:st.df=[])(hl:pin≤st.hp.length)(hr:(resL st res).map resV=some v)(hq:Q v st.hp st.tc):Ends C pin res Q e st:=
  ⟨he,st,by rw[hd];rfl,hl,v,hr,hq⟩
theorem zpv {C:Cfg}{pin:Nat}{fn:AFunc}{v:AV}{st:St}(hd:st.df=[]):finish C pin fn (.panic v) st=some (.pan v,st):=by
  show (match runDefs C pin st.df (some v) st with
    |some (none,st)=>(resL st fn.res).map fun vs=>(CRes.ret (resV vs),st)
    |some (some v,st)=>some (.pan v,st)
    |none=>none)=_
  rw[hd];rfl
theorem zbm {C:Cfg}{n f:Nat}{fn:AFunc}{first captured args:List AV}{H:List AB}{Q:AV→List AB→List Nat→Prop}(hc:C.calm=true)(hx:C.ext f=none)(hxh:C.exth f=none)(hf:C.fns f=some fn)(hw:C.whole f=true)
    (hlen:(first++args++captured).length≤fn.ntmps)
    (h:Does (ev C (Ev.call C n) H.length none fn.body { tm:=tmA fn.ntmps (zipI 0 (first++args++captured) []),df:=[],hp:=H,tc:=[] }) (Ends C H.length fn.res Q)):
    ∃ v hp tc H',Ev.call C (n+1) (.fn (.func f) first captured) args H=some (.ret v,H',tc)∧Q v hp tc∧Lft H hp tc H'∧(refs v≠[]∨tc≠[]→H'.length=hp.length∧∀ j,H.length≤j→H'[j]?=hp[j]?)∧(refs v=[]→tc=[]→H'=H):=by
  obtain ⟨x,hp,tc,H',h1,⟨v,rfl,h2⟩,h3,h4⟩:=znl (Q:=fun x hp tc=>∃ v,x=.ret v∧Q v hp tc) hc hx hxh hf hw hlen (h.mono fun e st he=>zeo he)
  exact ⟨v,hp,tc,H',h1,h2,h3,h4⟩
structure Rnd (H hp:List AB) (tc:List Nat) (l:Nat) (r:ALoop) (H':List AB):Prop where
  len:H.length≤H'.length
  here:H'[l]?=some (.loop r)
  old:∀ j,j<H.length→j∉tc→j≠l→H'[j]?=H[j]?
  got:∀ j,j<H.length→j∈tc→j≠l→H'[j]?=hp[j]?
  new:∀ j,H.length≤j→H'[j]?=hp[j]?
theorem zok {C:Cfg}{n l:Nat}{args:List AV}{H:List AB}{r:ALoop}{Q:AExit→List AB→List Nat→Prop}(hc:C.calm=true)(hl:H[l]?=some (.loop r))(hr:r.st=.ready)(hpd:r.pend=none)(hn:args.length=r.params.length)
    (h : Does (ev C (Ev.call C n) H.length (some l) r.assign { tm := setParams r.tm r.params args, df := [], hp := H, tc := [] }) fun e st => e = .normal ∧ st.hp[l]? = some (.loop r) ∧
      Does (ev C (Ev.call C n) H.length (some l) r.body { st with hp:=st.hp.set l (.loop { r with st:=.busy }),tc:=l::st.tc }) fun e st=>(∀ v,e≠.panic v)∧st.hp[l]?=some (.loop { r with st:=.busy })∧H.length≤st.hp.length∧Q e st.hp st.tc):
    ∃ b e hp tc H',Ev.call C (n+1) (.yield l) args H=some (.ret (.bool b),H',l::tc)∧(b=true↔e=.normal)∧Q e hp tc∧Rnd H hp tc l (if b then r else { r with st:=.done,pend:=some e }) H':=by
  have key:∀ (st:St) (x:AB),H.length≤st.hp.length→∀ j,(overH H (st.hp.set l x) (l::st.tc)++(st.hp.set l x).drop H.length)[j]?=if j<H.length∧j∉l::st.tc then H[j]? else (st.hp.set l x)[j]?:=fun st x hl j=>zgf (by simpa using hl) j
  have hll:=get_lt hl
  have fin : ∀ (st : St) (r' : ALoop), H.length ≤ st.hp.length → Rnd H st.hp st.tc l r' (overH H (st.hp.set l (.loop r')) (l :: st.tc) ++ (st.hp.set l (.loop r')).drop H.length) := fun st r' hlen => {
    len:=by simp[zbi]
    here:=by rw[key _ _ hlen,if_neg (by simp),List.getElem?_set_self (by omega)]
    old:=fun j h1 h2 h3=>by rw[key _ _ hlen,if_pos ⟨h1,by simp[h2,h3]⟩]
    got:=fun j h1 h2 h3=>by rw[key _ _ hlen,if_neg (by simp[h2]),List.getElem?_set_ne (by omega)]
    new:=fun j h1=>by rw[key _ _ hlen,if_neg (by omega),List.getElem?_set_ne (by omega)] }
  have := zxg (n := n) (R := fun x H' tc => ∃ b e hp tc', x = .ret (.bool b) ∧ tc = l :: tc' ∧ (b = true ↔ e = .normal) ∧ Q e hp tc' ∧ Rnd H hp tc' l (if b then r else { r with st := .done, pend := some e }) H') hc hl hr hn (h.mono fun e st ⟨h1, h2, h3⟩ => ⟨h1, r, h2, hr, h3.mono fun e st ⟨h4, h5, h6, h7⟩ => by
    have back:({ { r with st:=.busy } with st:=.ready,pend:=none }:ALoop)=r:=by
      obtain ⟨a,b,c,d,e,f,g⟩:=r
      simp only at hr hpd;subst hr hpd;rfl
    cases e with
    |panic v=>exact absurd rfl (h4 v)
    |normal=>
      refine ⟨_,h5,true,.normal,st.hp,st.tc,rfl,rfl,by simp,h7,?_⟩
      rw[back]
      exact fin st r h6
    |exit i=>
      exact ⟨_,h5,false,.exit i,st.hp,st.tc,rfl,rfl,by simp,h7,fin st _ h6⟩
    |ret=>
      exact ⟨_,h5,false,.ret,st.hp,st.tc,rfl,rfl,by simp,h7,fin st _ h6⟩⟩)
  obtain ⟨x,H',tc,h1,b,e,hp,tc',rfl,rfl,h2,h3,h4⟩:=this
  exact ⟨b,e,hp,tc',H',h1,h2,h3,h4⟩
theorem zav (d:Nat):(0≤(d:Int)+1)=True:=by simp;omega
theorem ge_of {α:Type}{l:List α}{i:Nat}{x:α}(h:l[i]?=some x):∀ h':i<l.length,l[i]'h'=x:=fun h'=>by rw[List.getElem?_eq_getElem h'] at h;exact Option.some.inj h
theorem zan {C:Cfg}(hC:C.calm=true){call:CallF}{pin:Nat}{rd:Option Nat}{Q:AExit→St→Prop}{st:St}{c:AC}{live:List Nat}(n:Nat)(hn:n<fuelL)(P:Nat→St→Prop)(h0:P 0 { st with tm:=keepT live st.tm })
    (hround:∀ i st,i<n→P i st→Does (ev C call pin rd c st) (fun e st'=>match e with|.normal=>P (i+1) { st' with tm:=keepT live st'.tm }|e=>Q e st'))
    (hend:∀ st,P n st→Does (ev C call pin rd c st) (fun e st'=>match e with|.normal=>False|e=>Q e st')):Does (ev C call pin rd (.loop live c) st) Q:=by
  refine zhe (fun q st=>q≤n∧P (n - q) st) n hn ⟨Nat.le_refl _,by rw[zdj hC,Nat.sub_self];exact h0⟩ ?_
  rintro q st ⟨hq,hP⟩
  by_cases h:q=0
  · subst h
    refine (hend st hP).mono fun e st' h=>?_
    cases e with
    |normal=>exact h.elim
    |exit i=>exact h
    |ret=>exact h
    |panic v=>exact h
  · refine (hround (n - q) st (by omega) hP).mono fun e st' h'=>?_
    cases e with
    |normal=>
      refine ⟨q - 1,by omega,by omega,?_⟩
      rw[zdj hC,show n - (q - 1)=n - q+1 by omega]
      exact h'
    |exit i=>exact h'
    |ret=>exact h'
    |panic v=>exact h'
theorem st_is {st:St}{tm:List AV}{df:List ADef}{hp:List AB}{tc:List Nat}(h1:st.tm=tm)(h2:st.df=df)(h3:st.hp=hp)(h4:st.tc=tc):st=⟨tm,df,hp,tc⟩:=by
  subst h1 h2 h3 h4;rfl
structure Yields {α:Type} (call:CallF) (l n0:Nat) (T:List Nat) (arg:α→AV) (L:List α) (S:List Nat) (U:List AB→Prop) (J:List α→List Nat→List AB→Prop) (E:List α→List AB→Prop) (M:List α→Nat→Prop):Prop where
  stable:∀ d W H H',J d W H→(∀ j,j<H.length→j<n0∨j∈W→j∉S→H'[j]?=H[j]?)→U H'→J d W H'
  stableE:∀ d H H',E d H→(∀ j,j<n0→H'[j]?=H[j]?)→E d H'
  step:∀ d s W H,d++[s] <+: L→J d W H→∃ b H' tc W',call (.yield l) [arg s] H=some (.ret (.bool b),H',tc)∧l∈tc∧(∀ j∈tc,j∈T++W)∧Kp tc H H'∧(∀ j∈W',j∈W∨H.length≤j)∧(b=true→J (d++[s]) W' H')∧(b=false→E (d++[s]) H'∧U H')∧(∀ j,j<n0→M (d++[s]) j→M d j∨j∈tc)
theorem Rnd.same {H hp:List AB}{tc:List Nat}{l:Nat}{r:ALoop}{H':List AB}(h:Rnd H hp tc l r H')(k:Kp tc H hp)(j:Nat)(hj:j≠l):H'[j]?=hp[j]?:=by
  by_cases hl:j<H.length
  · by_cases ht:j∈tc
    · exact h.got j hl ht hj
    · rw[h.old j hl ht hj,k.get j hl ht]
  · exact h.new j (by omega)
theorem Rnd.kp {H hp : List AB} {tc : List Nat} {l : Nat} {r : ALoop} {H' : List AB} (h : Rnd H hp tc l r H') : Kp (l :: tc) H H' := ⟨h.len, fun b hb hs => by
  simp only[List.mem_cons,not_or] at hs
  exact h.old b hb hs.2 hs.1⟩
theorem setP1 (N t:Nat)(v:AV)(l:List (Nat × AV)):setParams (tmA N l) [t] [v]=tmA N ((t,v)::l):=rfl
theorem zbn {C:Cfg}{pin D:Nat}{res:List ARes}{Q:AV→List AB→List Nat→Prop}{e:AExit}{st:St}{v:AV}(he:e=.ret∨e=.normal)(hd:st.df=[.mark D])(hD:st.hp[D]?=some .dfr)(hp:pin≤D)(hl:pin≤st.hp.length)(hr:(resL { st with hp:=st.hp.set D .dead } res).map resV=some v)(hq:Q v (st.hp.set D .dead) st.tc):Ends C pin res Q e st:=by
  refine ⟨he,{ st with hp:=st.hp.set D .dead },?_,by simpa using hl,v,hr,hq⟩
  conv=>lhs;rw[hd]
  have:¬ D<pin:=by omega
  simp only[runDefs,hD,List.filter_cons,List.filter_nil,this,decide_false,Bool.false_eq_true,if_false,List.nil_append]
theorem zkx {C:Cfg}{call:CallF}{pin:Nat}{Q:AExit→St→Prop}{st:St}{g:Opnd}{ps:List Nat}{as bd:AC}{gf:Nat}{first captured:List AV}(hg:val C st.tm g=.fn (.func gf) first captured)
    (h:∀ r:ALoop,r=⟨.ready,none,st.tm,ps,as,bd,st.hp.length⟩→∃ x H tc,call (.fn (.func gf) first captured) [.yield (st.hp.length+1)] (st.hp++[.dfr,.loop r])=some (x,H,tc)∧RgEnd pin (st.hp.length+1) (.mark st.hp.length::st.df) st Q x H tc):
    Does (ev C call pin none (.rangeF g ps as bd) st) Q:=by
  refine zqt hg ?_
  have:=h _ rfl
  rw[List.append_assoc]
  exact this
def IterG {α:Type}(C:Cfg)(n m:Nat)(gf:Nat)(first captured:List AV)(arg:α→AV)(L:List α)(S:List Nat)(Y:List AB→Prop)(pre:List AB→List Nat→Prop):Prop:=
  ∀ (H:List AB) (l:Nat) (T:List Nat) (J:List α→List Nat→List AB→Prop) (E:List α→List AB→Prop) (M:List α→Nat→Prop),pre H T→(∀ j∈T,j<H.length)→l∈T→J [] [] H→(∀ d W G,J d W G→Y G)→(∀ j,¬ M [] j)→Yields (Ev.call C n) l H.length T arg L S Y J E M →
    ∃ H' tc,Ev.call C m (.fn (.func gf) first captured) [.yield l] H=some (.ret (.tup []),H',tc)∧(∀ j∈tc,j∈S++T)∧Kp tc H H'∧((∃ W,(∀ j∈W,H.length≤j)∧J L W H'∧∀ j,j<H.length→M L j→j∈tc)∨∃ d,d <+: L∧E d H'∧∀ j,j<H.length→M d j→j∈tc)
theorem lft_eq {H hp:List AB}{tc:List Nat}{H':List AB}{v:AV}(h:Lft H hp tc H')(k:Kp tc H hp)(n:refs v≠[]∨tc≠[]→H'.length=hp.length∧∀ j,H.length≤j→H'[j]?=hp[j]?)(hn:refs v≠[]∨tc≠[]):H'=hp:=by
  obtain ⟨_,n2⟩:=n hn
  refine List.ext_getElem? fun j=>?_
  by_cases hj:j<H.length
  · exact h.same k j hj
  · exact n2 j (by omega)
theorem zez {α:Type}{C:Cfg}{k n gf:Nat}{fn:AFunc}{first captured:List AV}{arg:α→AV}{L:List α}{S:List Nat}{Y:List AB→Prop}{pre:List AB→List Nat→Prop}(hc:C.calm=true)(hx:C.ext gf=none)(hxh:C.exth gf=none)(hf:C.fns gf=some fn)(hw:C.whole gf=true)(hlen:first.length+1+captured.length≤fn.ntmps)
    (h : ∀ (H : List AB) (l : Nat) (T : List Nat) (J : List α → List Nat → List AB → Prop) (E : List α → List AB → Prop) (M : List α → Nat → Prop), pre H T → (∀ j ∈ T, j < H.length) → l ∈ T → J [] [] H → (∀ d W G, J d W G → Y G) → (∀ j, ¬ M [] j) → Yields (Ev.call C k) l H.length T arg L S Y J E M →
      Does (ev C (Ev.call C n) H.length none fn.body { tm:=tmA fn.ntmps (zipI 0 (first++[.yield l]++captured) []),df:=[],hp:=H,tc:=[] })
        (Ends C H.length fn.res fun v hp tc=>v=.tup []∧(∀ j∈tc,j∈S++T)∧Kp tc H hp∧((∃ W,(∀ j∈W,H.length≤j)∧J L W hp∧(L=[]∨l∈tc)∧∀ j,j<H.length→M L j→j∈tc)∨∃ d,d <+: L∧E d hp∧l∈tc∧∀ j,j<H.length→M d j→j∈tc))):IterG C k (n+1) gf first captured arg L S Y pre:=by
  intro H l T J E M h1 h2 h3 h4 h5 h7 h6
  obtain ⟨v,hp,tc,H',c1,⟨rfl,c2,c3,c4⟩,c5,c6,c7⟩:=zbm hc hx hxh hf hw (by simp;omega) (h H l T J E M h1 h2 h3 h4 h5 h7 h6)
  refine ⟨H',tc,c1,c2,c5.same c3 |> fun hs=>⟨c5.len,fun b hb ht=>(hs b hb).trans (c3.get b hb ht)⟩,?_⟩
  rcases c4 with ⟨W,w1,w2,w3,w4⟩|⟨d,d1,d2,d3,d4⟩
  · rcases w3 with w3|w3
    · by_cases ht:tc=[]
      · rw[c7 rfl ht];subst w3;exact .inl ⟨[],by simp,h4,fun j _ hj=>absurd hj (h7 j)⟩
      · rw[lft_eq c5 c3 c6 (.inr ht)];exact .inl ⟨W,w1,w2,w4⟩
    · rw[lft_eq c5 c3 c6 (.inr (by intro h;rw[h] at w3;cases w3))];exact .inl ⟨W,w1,w2,w4⟩
  · rw[lft_eq c5 c3 c6 (.inr (by intro h;rw[h] at d3;cases d3))];exact .inr ⟨d,d1,d2,d4⟩
def RoundTo {α:Type}(l:Nat)(rz:ALoop)(T S W:List Nat)(Y:List AB→Prop)(G:List AB)(J:List Nat→List AB→Prop)(E:AExit→List AB→Prop)(_a:Option α)(M M':Nat→Prop)(e:AExit)(st:St):Prop:=
  (∀ v,e≠.panic v)∧st.hp[l]?=some (.loop rz)∧G.length≤st.hp.length∧(∀ j∈st.tc,j=l∨j∈T∨j∈S∨j∈W)∧Kp st.tc G st.hp∧Y st.hp∧(e=.normal→∃ W',(∀ j∈W',j∈W∨G.length≤j)∧J W' st.hp)∧(e≠.normal→E e st.hp)∧∀ j,j<l+1→M' j→M j∨j∈st.tc
theorem zqu {α:Type}{C:Cfg}(hC:C.calm=true){n m gf:Nat}{first captured:List AV}{arg:α→AV}{L:List α}{S:List Nat}{Y:List AB→Prop}{pre:List AB→List Nat→Prop}(hI:IterG C (n+1) m gf first captured arg L S Y pre)
    {pin:Nat} {st:St} {g:Opnd} {ps:List Nat} {as bd:AC} {Q:AExit→St→Prop} (hg:val C st.tm g=.fn (.func gf) first captured) (hps:ps.length=1) (T:List Nat) (hT:∀ j∈T,j<st.hp.length) (hS:∀ j∈S,j<st.hp.length)
    (J:List α→List Nat→List AB→Prop) (E:AExit→List α→List AB→Prop) (M:List α→Nat→Prop) (hM:∀ j,¬ M [] j)
    (hpre:∀ r:ALoop,pre (st.hp++[.dfr,.loop r]) ((st.hp.length+1)::(T++S)))
    (hYs:∀ G G',Y G→(∀ j,j<st.hp.length+2→j≠st.hp.length+1→G'[j]?=G[j]?)→Y G')
    (hJ0:∀ r:ALoop,J [] [] (st.hp++[.dfr,.loop r])) (hY0:∀ r:ALoop,Y (st.hp++[.dfr,.loop r]))
    (hJs:∀ d W G G',J d W G→(∀ j∈W,st.hp.length+2≤j)→(∀ j,j<G.length→j<st.hp.length+2∨j∈W→j∉S→j≠st.hp.length+1→G'[j]?=G[j]?)→J d W G')
    (hEs:∀ e d G G',E e d G→(∀ j,j<st.hp.length+2→j≠st.hp.length+1→G'[j]?=G[j]?)→E e d G')
    (hround : ∀ d s W G rz, d ++ [s] <+: L → J d W G → Y G → st.hp.length + 2 ≤ G.length → (∀ j ∈ W, st.hp.length + 2 ≤ j) →
      Does (ev C (Ev.call C n) G.length (some (st.hp.length+1)) as { tm:=setParams st.tm ps [arg s],df:=[],hp:=G,tc:=[] }) fun e st1=>e=.normal∧st1.hp[st.hp.length+1]?=G[st.hp.length+1]? ∧
        Does (ev C (Ev.call C n) G.length (some (st.hp.length+1)) bd { st1 with hp:=st1.hp.set (st.hp.length+1) (.loop rz),tc:=(st.hp.length+1)::st1.tc }) (RoundTo (st.hp.length+1) rz T S W Y G (J (d++[s])) (fun e=>E e (d++[s])) (some s) (M d) (M (d++[s]))))
    (hQ:∀ H' tc W,(∀ j∈tc,j<st.hp.length→j∈S++T)→Kp tc st.hp H'→Y H'→H'[st.hp.length]?=some .dfr→st.hp.length+2≤H'.length→(∀ j∈W,st.hp.length+2≤j)→J L W H'→(∀ j,j<st.hp.length→M L j→j∈tc)→Q .normal { st with df:=.mark st.hp.length::st.df,hp:=H',tc:=tc.filter (·<pin)++st.tc })
    (hE:∀ e d H' tc,e≠.normal→(∀ j∈tc,j<st.hp.length→j∈S++T)→Kp tc st.hp H'→Y H'→H'[st.hp.length]?=some .dfr→st.hp.length+2≤H'.length→d <+: L→E e d H'→(∀ j,j<st.hp.length→M d j→j∈tc)→Q e { st with df:=.mark st.hp.length::st.df,hp:=H',tc:=tc.filter (·<pin)++st.tc }):
    Does (ev C (Ev.call C m) pin none (.rangeF g ps as bd) st) Q:=by
  refine zkx hg fun r hr=>?_
  have ra:=congrArg ALoop.assign hr
  have rb:=congrArg ALoop.body hr
  have rt:=congrArg ALoop.tm hr
  have rp:=congrArg ALoop.params hr
  have rs:=congrArg ALoop.st hr
  have rq:=congrArg ALoop.pend hr
  clear hr
  simp only at ra rb rt rp rs rq
  have hlen0:(st.hp++[.dfr,.loop r]:List AB).length=st.hp.length+2:=by simp
  have hstep:Yields (Ev.call C (n+1)) (st.hp.length+1) (st.hp++[.dfr,.loop r]:List AB).length ((st.hp.length+1)::(T++S)) arg L S Y
      (fun d W G=>J d W G∧Y G∧G[st.hp.length+1]?=some (.loop r)∧G[st.hp.length]?=some .dfr∧∀ j∈W,st.hp.length+2≤j)
      (fun d G=>∃ e,e≠.normal∧E e d G∧G[st.hp.length+1]?=some (.loop { r with st:=.done,pend:=some e })∧G[st.hp.length]?=some .dfr∧Y G) M:=by
    rw[hlen0]
    refine ⟨fun d W G G' ⟨h1,h2,h3,h4,h5⟩ k hy=>⟨hJs d W G G' h1 h5 fun j hj hw hs _=>k j hj hw hs,hy,(k _ (get_lt h3) (.inl (by omega)) fun h=>by have:=hS _ h;omega).trans h3,(k _ (get_lt h4) (.inl (by omega)) fun h=>by have:=hS _ h;omega).trans h4,h5⟩,fun d G G' ⟨e,g0,g1,g2,g3,g4⟩ k=>⟨e,g0,hEs _ _ _ _ g1 fun j hj _=>k j hj,(k _ (by omega)).trans g2,(k _ (by omega)).trans g3,hYs _ _ g4 fun j hj _=>k j hj⟩,?_⟩
    rintro d s W G hpr ⟨h1,h2,h3,h4,h5⟩
    have hGl:=get_lt h3
    obtain ⟨b,e,hp,tc,H',c1,c2,⟨c3,c4,c5,c6,c7,c8,c10⟩,c9⟩:=zok (C:=C) (n:=n) (l:=st.hp.length+1) (args:=[arg s]) (H:=G) (r:=r)
      (Q := fun e hp tc => (∀ v, e ≠ .panic v) ∧ (∀ j ∈ tc, j = st.hp.length + 1 ∨ j ∈ T ∨ j ∈ S ∨ j ∈ W) ∧ Kp tc G hp ∧ Y hp ∧ (e = .normal → ∃ W', (∀ j ∈ W', j ∈ W ∨ G.length ≤ j) ∧ J (d ++ [s]) W' hp) ∧ (e ≠ .normal → E e (d ++ [s]) hp) ∧ ∀ j, j < st.hp.length + 2 → M (d ++ [s]) j → M d j ∨ j ∈ tc) hC h3 rs rq (by rw [rp]; simp [hps]) (by
        have:=hround d s W G { r with st:=.busy } hpr h1 h2 (by omega) h5
        rw[← ra,← rb,← rt,← rp] at this
        refine this.mono fun e st1 ⟨g1,g2,g3⟩=>⟨g1,g2.trans h3,g3.mono fun e st2 ⟨k1,k2,k3,k4,k5,k6,k7,k8,k9⟩=>⟨k1,k2,k3,k1,k4,k5,k6,k7,k8,k9⟩⟩)
    have hsm:=c9.same c5
    have hd:H'[st.hp.length]?=some .dfr:=by
      rw[hsm _ (by omega),c5.get _ (by omega) (fun h=>?_),h4]
      rcases c4 _ h with h|h|h|h
      · omega
      · have:=hT _ h;omega
      · have:=hS _ h;omega
      · have:=h5 _ h;omega
    have hl9:st.hp.length+1∈(st.hp.length+1)::tc:=by simp
    have hall:∀ j∈(st.hp.length+1)::tc,j∈(st.hp.length+1)::(T++S)++W:=by
      intro j hj
      simp only[List.cons_append,List.append_assoc,List.mem_cons,List.mem_append]
      rcases List.mem_cons.1 hj with h|h
      · exact .inl h
      · rcases c4 j h with h|h|h|h
        · exact .inl h
        · exact .inr (.inl h)
        · exact .inr (.inr (.inl h))
        · exact .inr (.inr (.inr h))
    have c11:∀ j,j<st.hp.length+2→M (d++[s]) j→M d j∨j∈(st.hp.length+1)::tc:=fun j hl hj=>(c10 j hl hj).imp id (List.mem_cons_of_mem _)
    by_cases he:e=.normal
    · have hb:=c2.2 he
      obtain ⟨W',w1,w2⟩:=c7 he
      subst hb
      rw[if_pos rfl] at c9
      refine ⟨true,H',_,W',c1,hl9,hall,c9.kp,w1,fun _=>⟨hJs _ _ _ _ w2 (fun j hj=>(w1 j hj).elim (h5 j) fun h=>by omega) fun j _ _ _ hj=>hsm j hj,hYs _ _ c6 fun j _ hj=>hsm j hj,c9.here,hd,fun j hj=>?_⟩,(fun h=>by cases h),c11⟩
      rcases w1 j hj with h|h
      · exact h5 j h
      · omega
    · have hb:b=false:=by
        cases b with
        |false=>rfl
        |true=>exact absurd (c2.1 rfl) he
      subst hb
      rw[if_neg (by decide)] at c9
      exact ⟨false,H',_,[],c1,hl9,hall,c9.kp,by simp,(fun h=>by cases h),fun _=>⟨⟨e,he,hEs _ _ _ _ (c8 he) (fun j _ hj=>hsm j hj),c9.here,hd,hYs _ _ c6 fun j _ hj=>hsm j hj⟩,hYs _ _ c6 fun j _ hj=>hsm j hj⟩,c11⟩
  obtain ⟨H2, tc, c1, c2, c3, c4⟩ := hI (st.hp ++ [.dfr, .loop r]) (st.hp.length + 1) ((st.hp.length + 1) :: (T ++ S)) _ _ M (hpre r) (by
    intro j hj
    rw[hlen0]
    rcases List.mem_cons.1 hj with h|h
    · omega
    · rcases List.mem_append.1 h with h|h
      · have:=hT j h;omega
      · have:=hS j h;omega) (by simp) ⟨hJ0 r,hY0 r,by simp,by simp,by simp⟩ (fun d W G h=>h.2.1) hM hstep
  refine ⟨_,H2,tc,c1,?_⟩
  have hlen2:st.hp.length+2≤H2.length:=by have:=c3.len;rw[hlen0] at this;exact this
  have hk : Kp tc st.hp (H2.set (st.hp.length + 1) .dead) := ⟨by simp; omega, fun b hb ht => by
    rw[List.getElem?_set_ne (by omega)];exact c3.pre.get b hb ht⟩
  have htc:∀ j∈tc,j<st.hp.length→j∈S++T:=by
    intro j hj hl
    rcases List.mem_append.1 (c2 j hj) with h|h
    · exact List.mem_append_left _ h
    · rcases List.mem_cons.1 h with h|h
      · omega
      · exact List.mem_append.2 (List.mem_append.1 h).symm
  have hset:∀ j,j≠st.hp.length+1→(H2.set (st.hp.length+1) .dead)[j]?=H2[j]?:=fun j hj=>by rw[List.getElem?_set_ne (by omega)]
  rw[hlen0] at c4
  rcases c4 with ⟨W,w1,⟨h1,h2,h3,h4,h5⟩,h6⟩|⟨d,d1,⟨e,h0,h1,h2,h3,h4⟩,h6⟩
  · refine ⟨r,h3,by rw[rs];simp,?_⟩
    rw[rq]
    exact hQ _ tc W htc hk (hYs _ _ h2 fun j _ hj=>hset j hj) ((hset _ (by omega)).trans h4) (by simp;omega) h5 (hJs _ _ _ _ h1 h5 fun j _ _ _ hj=>hset j hj) fun j hj hm=>h6 j (by omega) hm
  · refine ⟨_,h2,by simp,?_⟩
    exact hE e d _ tc h0 htc hk (hYs _ _ h4 fun j _ hj=>hset j hj) ((hset _ (by omega)).trans h3) (by simp;omega) d1 (hEs _ _ _ _ h1 fun j _ hj=>hset j hj) fun j hj hm=>h6 j (by omega) hm
end Ev
namespace Clm
structure Sp where
  lo:Int
  hi:Int
  deriving DecidableEq,Inhabited
structure Pl where
  long:Sp
  wide:Sp
  high:Sp
  deriving DecidableEq,Inhabited
structure Evt where
  kind:Int
  clamp:Int
  sods:Sp
  deriving DecidableEq,Inhabited
structure Cl where
  piles:List Pl
  pack:Sp
  events:List Evt
def Sp.no:Sp:=⟨1,0⟩
def Sp.some (k:Sp):Bool:=decide (k.lo≤k.hi)
def Sp.both (k o:Sp):Sp:=if max k.lo o.lo > min k.hi o.hi then Sp.no else ⟨max k.lo o.lo,min k.hi o.hi⟩
def Sp.either (k o:Sp):Sp:=⟨min k.lo o.lo,max k.hi o.hi⟩
inductive Bf where
  |nil
  |sale (s:Sp)
  |count (s:Sp)
def Bf.after:Bf→Sp→Sp
  |.nil,k=>k
  |.sale s,k=>if k.some=false∨k.hi<s.lo then Sp.no else ⟨max 0 (k.lo - s.hi),k.hi - s.lo⟩
  |.count s,k=>k.both s
def Bf.before:Bf→Sp→Sp
  |.nil,k=>k
  |.sale s,k=>if k.some=false then Sp.no else ⟨k.lo+s.lo,k.hi+s.hi⟩
  |.count s,k=>k.both s
def logs:List Bf→Sp→List Sp
  |[],k=>[k]
  |e::l,k=>k.both (e.before ((logs l (e.after k)).headD Sp.no))::logs l (e.after k)
def Goes:List Bf→Int→Int→Prop
  |[],x,y=>y=x
  |.nil::l,x,y=>Goes l x y
  |.sale s::l,x,y=>∃ k,s.lo≤k∧k≤s.hi∧k≤x∧Goes l (x - k) y
  |.count s::l,x,y=>s.lo≤x∧x≤s.hi∧Goes l x y
def Sp.has (k:Sp)(x:Int):Prop:=k.lo≤x∧x≤k.hi
def Bf.fine:Bf→Prop
  |.sale s=>0≤s.lo∧s.lo≤s.hi
  |_=>True
theorem has_no (x:Int):¬ Sp.no.has x:=by simp only[Sp.has,Sp.no];omega
theorem some_iff (k:Sp):k.some=true↔k.lo≤k.hi:=by simp[Sp.some]
theorem zxd (k:Sp):k.some=true↔∃ x,k.has x:=by
  rw[some_iff];exact ⟨fun h=>⟨k.lo,by simp[Sp.has];omega⟩,fun ⟨x,h⟩=>by simp only[Sp.has] at h;omega⟩
theorem zgh (k o:Sp)(x:Int):(k.both o).has x↔k.has x∧o.has x:=by
  unfold Sp.both
  split
  · simp only[Sp.has,Sp.no];omega
  · simp only[Sp.has];omega
theorem zva (e:Bf)(h:e.fine)(k:Sp)(_hk:0≤k.lo)(y:Int):(e.after k).has y↔∃ x,k.has x∧Goes [e] x y:=by
  cases e with
  |nil=>simp[Bf.after,Goes]
  |count s=>
    simp only[Bf.after,zgh,Goes]
    simp only[Sp.has]
    exact ⟨fun h=>⟨y,h.1,h.2.1,h.2.2,rfl⟩,fun ⟨x,h1,h2,h3,h4⟩=>by subst h4;exact ⟨h1,h2,h3⟩⟩
  |sale s=>
    simp only[Bf.fine] at h
    simp only[Bf.after,Goes]
    by_cases hn:k.some=false∨k.hi<s.lo
    · rw[if_pos hn]
      simp only[Sp.some,decide_eq_false_iff_not] at hn
      simp only[Sp.has,Sp.no]
      constructor
      · omega
      · rintro ⟨x,h1,k',h2,h3,h4,rfl⟩;omega
    · rw[if_neg hn]
      simp only[Sp.some,decide_eq_false_iff_not] at hn
      simp only[Sp.has]
      constructor
      · intro hy
        by_cases hc:y+s.lo<k.lo
        · exact ⟨k.lo,by omega,k.lo - y,by omega,by omega,by omega,by omega⟩
        · exact ⟨y+s.lo,by omega,s.lo,by omega,by omega,by omega,by omega⟩
      · rintro ⟨x,h1,k',h2,h3,h4,rfl⟩;omega
theorem zzd (e:Bf)(k:Sp)(hk:0≤k.lo):0≤(e.after k).lo:=by
  cases e with
  |nil=>exact hk
  |count s=>unfold Bf.after Sp.both;simp only;split<;>simp only[Sp.no]<;>omega
  |sale s=>unfold Bf.after;simp only;split<;>simp only[Sp.no]<;>omega
theorem zqm (e:Bf)(h:e.fine)(o:Sp)(x:Int)(_ho:0≤o.lo):(e.before o).has x↔(match e with|.sale s=>o.some=true∧o.lo+s.lo≤x∧x≤o.hi+s.hi|.count s=>o.has x∧s.has x|.nil=>o.has x):=by
  cases e with
  |nil=>rfl
  |count s=>exact zgh ..
  |sale s=>
    simp only[Bf.before]
    split
    · rename_i hn;simp only[hn,Bool.false_eq_true,false_and,iff_false];exact has_no x
    · rename_i hn;rw[Bool.not_eq_false] at hn;simp only[hn,true_and,Sp.has]
theorem zkj:∀ (l:List Bf) (k:Sp),(∀ e∈l,e.fine)→0≤k.lo →
    0≤((logs l k).headD Sp.no).lo∧(∀ x,((logs l k).headD Sp.no).has x↔k.has x∧∃ y,Goes l x y)
  |[],k,_,hk=>by
    simp only[logs,List.headD_cons,Goes]
    exact ⟨hk,fun x=>⟨fun h=>⟨h,x,rfl⟩,fun h=>h.1⟩⟩
  |e::l,k,hf,hk=>by
    have he:=hf e (by simp)
    obtain ⟨ih0,ih⟩:=zkj l (e.after k) (fun e h=>hf e (by simp[h])) (zzd e k hk)
    simp only[logs,List.headD_cons]
    generalize (logs l (e.after k)).headD Sp.no=o at ih0 ih ⊢
    refine ⟨?_,fun x=>?_⟩
    · unfold Sp.both;split<;>simp only[Sp.no]<;>omega
    · rw[zgh,zqm e he o x ih0]
      refine and_congr_right fun hx=>?_
      cases e with
      |nil=>simp only[ih,Bf.after,Goes];exact ⟨fun h=>h.2,fun h=>⟨hx,h⟩⟩
      |count s=>
        simp only[ih,Bf.after,zgh,Goes]
        exact ⟨fun ⟨⟨_,y,h⟩,h2⟩=>⟨y,h2.1,h2.2,h⟩,fun ⟨y,h1,h2,h3⟩=>⟨⟨⟨hx,h1,h2⟩,y,h3⟩,h1,h2⟩⟩
      |sale s=>
        simp only
        constructor
        · rintro ⟨h1,h2,h3⟩
          rw[some_iff] at h1
          simp only[Bf.fine] at he
          have hz:∃ z,o.has z∧s.lo≤x - z∧x - z≤s.hi:=by
            by_cases hc:x - s.lo≤o.hi
            · exact ⟨x - s.lo,⟨by omega,by omega⟩,by omega,by omega⟩
            · exact ⟨o.hi,⟨by omega,by omega⟩,by omega,by omega⟩
          obtain ⟨z,hz,h4,h5⟩:=hz
          obtain ⟨hz1,y,hy⟩:=(ih z).1 hz
          have hz0:0≤z:=by simp only[Sp.has] at hz;omega
          refine ⟨y,x - z,h4,h5,by omega,?_⟩
          rw[show x - (x - z)=z by omega];exact hy
        · rintro ⟨y,k',h1,h2,h3,h4⟩
          have:=(ih (x - k')).2 ⟨(zva _ he k hk _).2 ⟨x,hx,k',h1,h2,h3,rfl⟩,y,h4⟩
          simp only[Sp.has] at this
          exact ⟨(some_iff _).2 (by omega),by omega,by omega⟩
def ends (l:List Bf)(k:Sp):Sp:=l.foldl (fun k e=>e.after k) k
theorem zkk (l:List Bf)(n:Int)(hf:∀ e∈l,e.fine)(hn:0≤n):((logs l ⟨n,n⟩).headD Sp.no).some=true↔∃ y,Goes l n y:=by
  obtain ⟨_,h⟩:=zkj l ⟨n,n⟩ hf hn
  rw[zxd]
  constructor
  · rintro ⟨x,hx⟩
    obtain ⟨h1,y,h2⟩:=(h x).1 hx
    simp only[Sp.has] at h1
    have e:x=n:=by omega
    subst e;exact ⟨y,h2⟩
  · rintro ⟨y,hy⟩
    exact ⟨n,(h n).2 ⟨⟨Int.le_refl _,Int.le_refl _⟩,y,hy⟩⟩
def bit (s:Nat)(i:Nat):Bool:=s.testBit i
def befell (c:Cl)(number:Int)(counts:Nat):List Bf:=
  c.events.zipIdx.map fun p=>if p.1.clamp≠number then .nil else if p.1.kind=0 then .sale p.1.sods else if bit counts p.2 then .count p.1.sods else .nil
def spanL (s:Sp):List Int:=(List.range (s.hi+1 - s.lo).toNat).map fun (i:Nat)=>s.lo+(i:Int)
structure Size where
  l:Int
  w:Int
  h:Int
  deriving DecidableEq,Inhabited
def sizes (p:Pl):List Size:=(spanL p.long).flatMap fun l=>(spanL p.wide).flatMap fun w=>(spanL p.high).map fun h=>⟨l,w,h⟩
def Size.sods (s:Size)(pack:Int):Int:=s.l * s.w * s.h * pack
def logOf (c:Cl)(number:Nat)(pack:Int)(counts:Nat)(s:Size):List Sp:=logs (befell c number counts) ⟨s.sods pack,s.sods pack⟩
structure Way where
  size:Size
  log:List Sp
def ways (c:Cl)(number:Nat)(pack:Int)(counts:Nat):List Way:=
  (sizes (c.piles.getD number default)).filterMap fun s=>if ((logOf c number pack counts s).headD Sp.no).some then some ⟨s,logOf c number pack counts s⟩ else none
def packs (c:Cl)(counts:Nat):List Int:=(spanL c.pack).filter fun k=>(List.range c.piles.length).all fun i=>!(ways c i k counts).isEmpty
def can (c:Cl)(counts:Nat):Bool:=!(packs c counts).isEmpty
def hull:List Sp→Sp
  |[]=>⟨0,0⟩
  |k::l=>l.foldl (fun k x=>k.either x) k
def every (c:Cl):Nat:=2 ^ c.events.length - 1
def isSpan (s:Sp)(low high wide:Int):Bool:=decide (low≤s.lo∧s.lo≤s.hi∧s.hi≤high∧s.hi - s.lo≤wide)
def valid (c:Cl):Bool:=decide (1≤c.piles.length∧c.piles.length≤4)&&isSpan c.pack 1 5 2&&decide (c.events.length≤6) &&
  c.piles.all (fun p=>isSpan p.long 1 10 1&&isSpan p.wide 1 10 1&&isSpan p.high 1 10 1) &&
  c.events.all (fun v=>decide (0≤v.clamp∧v.clamp<c.piles.length)&&decide (v.kind=0∨v.kind=1)&&isSpan v.sods 0 5000 (if v.kind=0 then 3 else 5000))
structure Hull (s:Sp) (P:Int→Prop):Prop where
  lo:P s.lo
  hi:P s.hi
  all:∀ x,P x→s.has x
theorem Hull.uniq {s t:Sp}{P:Int→Prop}(h:Hull s P)(g:Hull t P):s=t:=by
  obtain ⟨a,b⟩:=s
  obtain ⟨c,d⟩:=t
  have h1:=h.all _ g.lo;have h2:=h.all _ g.hi;have h3:=g.all _ h.lo;have h4:=g.all _ h.hi
  simp only[Sp.has] at h1 h2 h3 h4
  have e1:a=c:=by omega
  have e2:b=d:=by omega
  rw[e1,e2]
theorem Hull.congr {s:Sp}{P Q:Int→Prop}(h:Hull s P)(e:∀ x,P x↔Q x):Hull s Q:=⟨(e _).1 h.lo,(e _).1 h.hi,fun x hx=>h.all x ((e x).2 hx)⟩
theorem Hull.le {s:Sp}{P:Int→Prop}(h:Hull s P):s.lo≤s.hi:=(h.all _ h.hi).1
theorem Hull.either {s t:Sp}{P Q:Int→Prop}(h:Hull s P)(g:Hull t Q):Hull (s.either t) fun x=>P x∨Q x:=by
  refine ⟨?_,?_,?_⟩
  · simp only[Sp.either]
    by_cases hc:s.lo≤t.lo
    · rw[show min s.lo t.lo=s.lo by omega];exact .inl h.lo
    · rw[show min s.lo t.lo=t.lo by omega];exact .inr g.lo
  · simp only[Sp.either]
    by_cases hc:t.hi≤s.hi
    · rw[show max s.hi t.hi=s.hi by omega];exact .inl h.hi
    · rw[show max s.hi t.hi=t.hi by omega];exact .inr g.hi
  · rintro x (hx|hx)
    · have:=h.all x hx;simp only[Sp.has,Sp.either] at this ⊢;omega
    · have:=g.all x hx;simp only[Sp.has,Sp.either] at this ⊢;omega
theorem zkp {α:Type}(f:α→Sp)(P:α→Int→Prop):∀ (l:List α) (s:Sp) (Q:Int→Prop),Hull s Q→(∀ a∈l,Hull (f a) (P a))→Hull ((l.map f).foldl (fun k x=>k.either x) s) fun x=>Q x∨∃ a∈l,P a x
  |[],s,Q,h,_=>by simpa using h
  |a::l,s,Q,h,hl=>by
    simp only[List.map_cons,List.foldl_cons]
    refine (zkp f P l _ _ (h.either (hl a (by simp))) fun b hb=>hl b (by simp[hb])).congr fun x=>?_
    simp[or_assoc]
theorem hull_hull {α:Type}(f:α→Sp)(P:α→Int→Prop)(l:List α)(hne:l≠[])(h:∀ a∈l,Hull (f a) (P a)):Hull (hull (l.map f)) fun x=>∃ a∈l,P a x:=by
  cases l with
  |nil=>exact absurd rfl hne
  |cons a l=>
    simp only[List.map_cons,hull]
    refine (zkp f P l _ _ (h a (by simp)) fun b hb=>h b (by simp[hb])).congr fun x=>?_
    simp
theorem Hull.add {s t:Sp}{P Q:Int→Prop}(h:Hull s P)(g:Hull t Q):Hull ⟨s.lo+t.lo,s.hi+t.hi⟩ fun x=>∃ y z,P y∧Q z∧x=y+z:=
  ⟨⟨_, _, h.lo, g.lo, rfl⟩, ⟨_, _, h.hi, g.hi, rfl⟩, fun x ⟨y, z, hy, hz, e⟩ => by
    have:=h.all y hy;have:=g.all z hz;simp only[Sp.has] at *;omega⟩
theorem zuy (l:List Int)(hne:l≠[]):Hull (hull (l.map fun n=>⟨n,n⟩)) fun x=>x∈l:=
  (hull_hull (fun n=>⟨n,n⟩) (fun n x=>x=n) l hne fun a _=>⟨rfl,rfl,fun x e=>by subst e;exact ⟨Int.le_refl _,Int.le_refl _⟩⟩).congr fun x=>by simp
theorem span_len (s:Sp):(spanL s).length=(s.hi+1 - s.lo).toNat:=by simp[spanL]
theorem span_get (s:Sp){i:Nat}(h:i<(spanL s).length):(spanL s)[i]=s.lo+i:=by simp[spanL]
theorem pre_flat {α β:Type}(f:α→List β){xs:List α}{i:Nat}{x:α}(h:xs[i]?=some x){q:List β}(hq:q <+: f x):(xs.take i).flatMap f++q <+: xs.flatMap f:=by
  obtain ⟨t,ht⟩:=hq
  have hi:=(List.getElem?_eq_some_iff.1 h).1
  have hx:=(List.getElem?_eq_some_iff.1 h).2
  refine ⟨t++(xs.drop (i+1)).flatMap f,?_⟩
  conv=>rhs;rw[← List.take_append_drop i xs,List.drop_eq_getElem_cons hi,hx]
  simp[← ht]
theorem pre_map {α β:Type}(f:α→β){xs:List α}{i:Nat}{x:α}(h:xs[i]?=some x):(xs.take i).map f++[f x] <+: xs.map f:=by
  have hi:=(List.getElem?_eq_some_iff.1 h).1
  have hx:=(List.getElem?_eq_some_iff.1 h).2
  refine ⟨(xs.drop (i+1)).map f,?_⟩
  conv=>rhs;rw[← List.take_append_drop i xs,List.drop_eq_getElem_cons hi,hx]
  simp
theorem flat_succ {α β:Type}(f:α→List β){xs:List α}{i:Nat}{x:α}(h:xs[i]?=some x):(xs.take (i+1)).flatMap f=(xs.take i).flatMap f++f x:=by
  rw[List.take_add_one,h];simp
theorem map_succ {α β:Type}(f:α→β){xs:List α}{i:Nat}{x:α}(h:xs[i]?=some x):(xs.take (i+1)).map f=(xs.take i).map f++[f x]:=by
  rw[List.take_add_one,h];simp
end Clm
namespace Ev
namespace K
attribute [local simp] ev1 wantG spineK spine float xnew xval xeff zab zae zau zah zai addFl cellsOf pickC alive slLen slFt binI maxA maxK minA minK aeqK aeqS AV.cells fillA setAt bitsI nat_nn zav AV.plain apart
set_option maxRecDepth 100000
set_option maxHeartbeats 4000000
structure Hidden (p:Prop):Prop where
  out:p
theorem hideP {p:Prop}(h:p):Hidden p:=⟨h⟩
theorem endvP {P:Prop}(h:P:=by simp only[resL,resOf,zaa];simp[*,resV]):P:=h
theorem inwP {P:Prop}(h:P:=by (refine st_is ?_ ?_ ?_ ?_;(focus (simp[zag,zal]));(focus rfl);(focus (first|rfl|(simp;done)|(simp[*];done)|(simp;rfl)|(simp[*];omega)|(simp;omega)));(focus (first|rfl|simp)))):P:=h
theorem gA {P Q:Prop}(q:Q)(h:Hidden Q→P:=by intro q0;(repeat (first|(with_reducible apply zak;(focus ((conv=>lhs;simp[*,spA,zad,Nat.testBit_eq_decide_div_mod_eq])<;>exact rfl));simp only[addFl])|((with_reducible first|apply zaw|apply zay|apply zas|apply zaq|apply zao|apply zax|apply zar|apply zaz|(apply zap;· simp[*,zab])|(apply zam;· simp[*,zab]));try simp only[Then,Ops,OutB,reduceIte])|simp only[Nat.reduceEqDiff,reduceIte,OutB,Then]));exact q0.out):P:=h ⟨q⟩
theorem gB {P Q:Prop}(q:Q)(h:Hidden Q→P:=by intro q0;(repeat (first|((with_reducible apply zak);(focus ((with_reducible apply zba);(focus rfl);(focus rfl);(focus ((conv=>lhs;simp[*,spA,zad,List.getElem?_append_right,List.set_append_right,List.set_cons_zero,List.set_cons_succ,List.getElem?_cons_zero,List.getElem?_cons_succ,List.getElem?_append_left,List.getElem?_set_ne,List.getElem?_set_self,List.set_append_left,List.length_set,-getElem?_pos,Nat.testBit_eq_decide_div_mod_eq])<;>exact rfl));(focus rfl);(focus rfl)));simp only[addFl])|(with_reducible apply zak;(focus ((conv=>lhs;simp[*,List.getElem?_append_right,List.set_append_right,List.getElem?_cons_zero,List.getElem?_append_left,List.set_append_left,-getElem?_pos,spA,zad,Nat.testBit_eq_decide_div_mod_eq])<;>exact rfl));simp only[addFl])|((with_reducible first|apply zaw|apply zay|apply zas|apply zaq|apply zao|apply zax|apply zar|apply zaz|(apply zap;· simp[*,zab])|(apply zam;· simp[*,zab]));try simp only[Then,Ops,OutB,reduceIte])|simp only[Nat.reduceEqDiff,reduceIte,OutB,Then]));exact q0.out):P:=h ⟨q⟩
theorem gC {P Q:Prop}(q:Q)(h:Hidden Q→P:=by intro q0;(repeat (first|((with_reducible apply zak);(focus ((with_reducible apply zba);(focus rfl);(focus rfl);(focus ((conv=>lhs;simp[*,spA,zad,List.getElem?_append_right,List.set_append_right,List.set_cons_zero,List.set_cons_succ,List.getElem?_cons_zero,List.getElem?_cons_succ,List.getElem?_append_left,List.getElem?_set_ne,List.getElem?_set_self,List.set_append_left,List.length_set,-getElem?_pos,↓zbe,↓zbr,Nat.testBit_eq_decide_div_mod_eq])<;>exact rfl));(focus rfl);(focus rfl)));simp only[addFl])|(with_reducible apply zak;(focus ((conv=>lhs;simp[*,List.getElem?_append_right,List.set_append_right,List.getElem?_cons_zero,List.getElem?_append_left,List.set_append_left,-getElem?_pos,↓zbe,↓zbr,spA,zad,Nat.testBit_eq_decide_div_mod_eq])<;>exact rfl));simp only[addFl])|((with_reducible first|apply zaw|apply zay|apply zas|apply zaq|apply zao|apply zax|apply zar|apply zaz|(apply zap;· simp[*,zab])|(apply zam;· simp[*,zab]));try simp only[Then,Ops,OutB,reduceIte])|simp only[Nat.reduceEqDiff,reduceIte,OutB,Then]));exact q0.out):P:=h ⟨q⟩
theorem gD {P Q:Prop}(q:Q)(h:Hidden Q→P:=by intro q0;(repeat (first|(with_reducible apply zak;(focus ((conv=>lhs;simp[*,spA,zad,Nat.testBit_eq_decide_div_mod_eq])<;>exact rfl));simp only[addFl])|(with_reducible apply zgq;(focus ((conv=>lhs;simp[*,spA,zad,Nat.testBit_eq_decide_div_mod_eq])<;>exact rfl));(try simp only[Ops,Then,OutB]);(try dsimp only))|((with_reducible first|apply zaw|apply zay|apply zas|apply zaq|apply zao|apply zax|apply zar|apply zaz|(apply zap;· simp[*,zab])|(apply zam;· simp[*,zab]));try simp only[Then,Ops,OutB,reduceIte])|simp only[Nat.reduceEqDiff,reduceIte,OutB,Then]));exact q0.out):P:=h ⟨q⟩
theorem gE {P Q:Prop}(q:Q)(h:Hidden Q→P:=by intro q0;(repeat (first|(with_reducible apply zak;(focus ((conv=>lhs;simp[*,↓zbe,spA,zad,Nat.testBit_eq_decide_div_mod_eq])<;>exact rfl));simp only[addFl])|((with_reducible first|apply zaw|apply zay|apply zas|apply zaq|apply zao|apply zax|apply zar|apply zaz|(apply zap;· simp[*,zab])|(apply zam;· simp[*,zab]));try simp only[Then,Ops,OutB,reduceIte])|simp only[Nat.reduceEqDiff,reduceIte,OutB,Then]));exact q0.out):P:=h ⟨q⟩
theorem gF {P Q:Prop}(q:Q)(h:Hidden Q→P:=by intro q0;(repeat (first|(with_reducible apply zak;(focus ((conv=>lhs;simp[*,evE,spA,zad,Nat.testBit_eq_decide_div_mod_eq])<;>exact rfl));simp only[addFl])|((with_reducible first|apply zaw|apply zay|apply zas|apply zaq|apply zao|apply zax|apply zar|apply zaz|(apply zap;· simp[*,zab])|(apply zam;· simp[*,zab]));try simp only[Then,Ops,OutB,reduceIte])|simp only[Nat.reduceEqDiff,reduceIte,OutB,Then]));exact q0.out):P:=h ⟨q⟩
theorem gG {P Q:Prop}(q:Q)(h:Hidden Q→P:=by intro q0;(repeat (first|((with_reducible apply zak);(focus ((with_reducible apply zba);(focus rfl);(focus rfl);(focus ((conv=>lhs;simp[*,spA,zad,List.getElem?_append_right,List.set_append_right,List.set_cons_zero,List.set_cons_succ,List.getElem?_cons_zero,List.getElem?_cons_succ,List.getElem?_append_left,List.getElem?_set_ne,List.getElem?_set_self,List.set_append_left,List.length_set,-getElem?_pos,↓zbe,Nat.testBit_eq_decide_div_mod_eq])<;>exact rfl));(focus rfl);(focus rfl)));simp only[addFl])|(with_reducible apply zak;(focus ((conv=>lhs;simp[*,List.getElem?_append_right,List.set_append_right,List.getElem?_cons_zero,List.getElem?_append_left,List.set_append_left,-getElem?_pos,↓zbe,spA,zad,Nat.testBit_eq_decide_div_mod_eq])<;>exact rfl));simp only[addFl])|((with_reducible first|apply zaw|apply zay|apply zas|apply zaq|apply zao|apply zax|apply zar|apply zaz|(apply zap;· simp[*,zab])|(apply zam;· simp[*,zab]));try simp only[Then,Ops,OutB,reduceIte])|simp only[Nat.reduceEqDiff,reduceIte,OutB,Then]));exact q0.out):P:=h ⟨q⟩
theorem gI {P Q:Prop}(q:Q)(h:Hidden Q→P:=by intro q0;(repeat (first|((with_reducible apply zak);(focus ((with_reducible apply zba);(focus rfl);(focus rfl);(focus ((conv=>lhs;simp[*,spA,zad,List.getElem?_append_right,List.set_append_right,List.set_cons_zero,List.set_cons_succ,List.getElem?_cons_zero,List.getElem?_cons_succ,List.getElem?_append_left,List.getElem?_set_ne,List.getElem?_set_self,List.set_append_left,List.length_set,-getElem?_pos,evE,Nat.testBit_eq_decide_div_mod_eq])<;>exact rfl));(focus rfl);(focus rfl)));simp only[addFl])|(with_reducible apply zak;(focus ((conv=>lhs;simp[*,List.getElem?_append_right,List.set_append_right,List.getElem?_cons_zero,List.getElem?_append_left,List.set_append_left,-getElem?_pos,evE,spA,zad,Nat.testBit_eq_decide_div_mod_eq])<;>exact rfl));simp only[addFl])|((with_reducible first|apply zaw|apply zay|apply zas|apply zaq|apply zao|apply zax|apply zar|apply zaz|(apply zap;· simp[*,zab])|(apply zam;· simp[*,zab]));try simp only[Then,Ops,OutB,reduceIte])|simp only[Nat.reduceEqDiff,reduceIte,OutB,Then]));exact q0.out):P:=h ⟨q⟩
theorem gJ {P Q:Prop}(q:Q)(h:Hidden Q→P:=by intro q0;(repeat (first|(with_reducible apply zak;(focus ((conv=>lhs;simp[*,ptE,spA,zad,Nat.testBit_eq_decide_div_mod_eq])<;>exact rfl));simp only[addFl])|((with_reducible first|apply zaw|apply zay|apply zas|apply zaq|apply zao|apply zax|apply zar|apply zaz|(apply zap;· simp[*,zab])|(apply zam;· simp[*,zab]));try simp only[Then,Ops,OutB,reduceIte])|simp only[Nat.reduceEqDiff,reduceIte,OutB,Then]));exact q0.out):P:=h ⟨q⟩
theorem gK {P Q:Prop}(q:Q)(h:Hidden Q→P:=by intro q0;(repeat (first|((with_reducible apply zak);(focus ((with_reducible apply zba);(focus rfl);(focus rfl);(focus ((conv=>lhs;simp[*,spA,zad,List.getElem?_append_right,List.set_append_right,List.set_cons_zero,List.set_cons_succ,List.getElem?_cons_zero,List.getElem?_cons_succ,List.getElem?_append_left,List.getElem?_set_ne,List.getElem?_set_self,List.set_append_left,List.length_set,-getElem?_pos,evE,↓zbe,Nat.testBit_eq_decide_div_mod_eq])<;>exact rfl));(focus rfl);(focus rfl)));simp only[addFl])|(with_reducible apply zak;(focus ((conv=>lhs;simp[*,List.getElem?_append_right,List.set_append_right,List.getElem?_cons_zero,List.getElem?_append_left,List.set_append_left,-getElem?_pos,evE,↓zbe,spA,zad,Nat.testBit_eq_decide_div_mod_eq])<;>exact rfl));simp only[addFl])|((with_reducible first|apply zaw|apply zay|apply zas|apply zaq|apply zao|apply zax|apply zar|apply zaz|(apply zap;· simp[*,zab])|(apply zam;· simp[*,zab]));try simp only[Then,Ops,OutB,reduceIte])|simp only[Nat.reduceEqDiff,reduceIte,OutB,Then]));exact q0.out):P:=h ⟨q⟩
theorem gL {P Q:Prop}(q:Q)(h:Hidden Q→P:=by intro q0;(repeat (first|(with_reducible apply zak;(focus ((conv=>lhs;simp[*,↓zbe,spA,zad,Nat.testBit_eq_decide_div_mod_eq])<;>exact rfl));simp only[addFl])|(with_reducible apply zgq;(focus ((conv=>lhs;simp[*,↓zbe,spA,zad,Nat.testBit_eq_decide_div_mod_eq])<;>exact rfl));(try simp only[Ops,Then,OutB]);(try dsimp only))|((with_reducible first|apply zaw|apply zay|apply zas|apply zaq|apply zao|apply zax|apply zar|apply zaz|(apply zap;· simp[*,zab])|(apply zam;· simp[*,zab]));try simp only[Then,Ops,OutB,reduceIte])|simp only[Nat.reduceEqDiff,reduceIte,OutB,Then]));exact q0.out):P:=h ⟨q⟩
theorem gM {P Q:Prop}(q:Q)(h:Hidden Q→P:=by intro q0;(repeat (first|(with_reducible apply zak;(focus ((conv=>lhs;simp[*,ptE,spA,zad,Nat.testBit_eq_decide_div_mod_eq])<;>exact rfl));simp only[addFl])|(with_reducible apply zgq;(focus ((conv=>lhs;simp[*,ptE,spA,zad,Nat.testBit_eq_decide_div_mod_eq])<;>exact rfl));(try simp only[Ops,Then,OutB]);(try dsimp only))|((with_reducible first|apply zaw|apply zay|apply zas|apply zaq|apply zao|apply zax|apply zar|apply zaz|(apply zap;· simp[*,zab])|(apply zam;· simp[*,zab]));try simp only[Then,Ops,OutB,reduceIte])|simp only[Nat.reduceEqDiff,reduceIte,OutB,Then]));exact q0.out):P:=h ⟨q⟩
theorem gN {P Q:Prop}(q:Q)(h:Hidden Q→P:=by intro q0;(repeat (first|(with_reducible apply zak;(focus ((conv=>lhs;simp[*,evE,spA,zad,Nat.testBit_eq_decide_div_mod_eq])<;>exact rfl));simp only[addFl])|(with_reducible apply zgq;(focus ((conv=>lhs;simp[*,evE,spA,zad,Nat.testBit_eq_decide_div_mod_eq])<;>exact rfl));(try simp only[Ops,Then,OutB]);(try dsimp only))|((with_reducible first|apply zaw|apply zay|apply zas|apply zaq|apply zao|apply zax|apply zar|apply zaz|(apply zap;· simp[*,zab])|(apply zam;· simp[*,zab]));try simp only[Then,Ops,OutB,reduceIte])|simp only[Nat.reduceEqDiff,reduceIte,OutB,Then]));exact q0.out):P:=h ⟨q⟩
theorem gO {P Q:Prop}(q:Q)(h:Hidden Q→P:=by intro q0;(repeat (first|((with_reducible apply zak);(focus ((with_reducible apply zba);(focus rfl);(focus rfl);(focus ((conv=>lhs;simp[*,spA,zad,List.getElem?_append_right,List.set_append_right,List.set_cons_zero,List.set_cons_succ,List.getElem?_cons_zero,List.getElem?_cons_succ,List.getElem?_append_left,List.getElem?_set_ne,List.getElem?_set_self,List.set_append_left,List.length_set,-getElem?_pos,ptE,Nat.testBit_eq_decide_div_mod_eq])<;>exact rfl));(focus rfl);(focus rfl)));simp only[addFl])|(with_reducible apply zak;(focus ((conv=>lhs;simp[*,List.getElem?_append_right,List.set_append_right,List.getElem?_cons_zero,List.getElem?_append_left,List.set_append_left,-getElem?_pos,ptE,spA,zad,Nat.testBit_eq_decide_div_mod_eq])<;>exact rfl));simp only[addFl])|((with_reducible first|apply zaw|apply zay|apply zas|apply zaq|apply zao|apply zax|apply zar|apply zaz|(apply zap;· simp[*,zab])|(apply zam;· simp[*,zab]));try simp only[Then,Ops,OutB,reduceIte])|simp only[Nat.reduceEqDiff,reduceIte,OutB,Then]));exact q0.out):P:=h ⟨q⟩
theorem gP {P Q:Prop}(q:Q)(h:Hidden Q→P:=by intro q0;(repeat (first|((with_reducible apply zak);(focus ((with_reducible apply zba);(focus rfl);(focus rfl);(focus ((conv=>lhs;simp[*,spA,zad,List.getElem?_append_right,List.set_append_right,List.set_cons_zero,List.set_cons_succ,List.getElem?_cons_zero,List.getElem?_cons_succ,List.getElem?_append_left,List.getElem?_set_ne,List.getElem?_set_self,List.set_append_left,List.length_set,-getElem?_pos,↓zbe,↓zbr,evE,roadCs,Nat.testBit_eq_decide_div_mod_eq])<;>exact rfl));(focus rfl);(focus rfl)));simp only[addFl])|(with_reducible apply zak;(focus ((conv=>lhs;simp[*,List.getElem?_append_right,List.set_append_right,List.getElem?_cons_zero,List.getElem?_append_left,List.set_append_left,-getElem?_pos,↓zbe,↓zbr,evE,roadCs,spA,zad,Nat.testBit_eq_decide_div_mod_eq])<;>exact rfl));simp only[addFl])|((with_reducible first|apply zaw|apply zay|apply zas|apply zaq|apply zao|apply zax|apply zar|apply zaz|(apply zap;· simp[*,zab])|(apply zam;· simp[*,zab]));try simp only[Then,Ops,OutB,reduceIte])|simp only[Nat.reduceEqDiff,reduceIte,OutB,Then]));exact q0.out):P:=h ⟨q⟩
theorem gQ {P Q:Prop}(q:Q)(h:Hidden Q→P:=by intro q0;(repeat (first|((with_reducible apply zak);(focus ((with_reducible apply zba);(focus rfl);(focus rfl);(focus ((conv=>lhs;simp[*,spA,zad,List.getElem?_append_right,List.set_append_right,List.set_cons_zero,List.set_cons_succ,List.getElem?_cons_zero,List.getElem?_cons_succ,List.getElem?_append_left,List.getElem?_set_ne,List.getElem?_set_self,List.set_append_left,List.length_set,-getElem?_pos,ptE,evE,Nat.testBit_eq_decide_div_mod_eq])<;>exact rfl));(focus rfl);(focus rfl)));simp only[addFl])|(with_reducible apply zak;(focus ((conv=>lhs;simp[*,List.getElem?_append_right,List.set_append_right,List.getElem?_cons_zero,List.getElem?_append_left,List.set_append_left,-getElem?_pos,ptE,evE,spA,zad,Nat.testBit_eq_decide_div_mod_eq])<;>exact rfl));simp only[addFl])|((with_reducible first|apply zaw|apply zay|apply zas|apply zaq|apply zao|apply zax|apply zar|apply zaz|(apply zap;· simp[*,zab])|(apply zam;· simp[*,zab]));try simp only[Then,Ops,OutB,reduceIte])|simp only[Nat.reduceEqDiff,reduceIte,OutB,Then]));exact q0.out):P:=h ⟨q⟩
theorem gR {P Q:Prop}(q:Q)(h:Hidden Q→P:=by intro q0;(repeat (first|(with_reducible apply zak;(focus ((conv=>lhs;simp[*,keyOK,spA,zad,Nat.testBit_eq_decide_div_mod_eq])<;>exact rfl));simp only[addFl])|((with_reducible first|apply zaw|apply zay|apply zas|apply zaq|apply zao|apply zax|apply zar|apply zaz|(apply zap;· simp[*,zab])|(apply zam;· simp[*,zab]));try simp only[Then,Ops,OutB,reduceIte])|simp only[Nat.reduceEqDiff,reduceIte,OutB,Then]));exact q0.out):P:=h ⟨q⟩
theorem zaf {n:Int}(h1:-9223372036854775808≤n)(h2:n≤9223372036854775807):IntKind.i64.wrap n=n:=by
  simp[IntKind.wrap,IntKind.bits,IntKind.signed]
  split<;>omega
theorem st_eq {st:St}{tm:List AV}{df:List ADef}{hp:List AB}{tc:List Nat}(h1:st.tm=tm)(h2:st.df=df)(h3:st.hp=hp)(h4:st.tc=tc):st=⟨tm,df,hp,tc⟩:=by
  cases st;cases h1;cases h2;cases h3;cases h4;rfl
theorem zad (k:Nat)(H:List AB)(b off n k':Nat):slCells k H (.sl b off n k')=if k=k' then (match H[b]? with|some (.cells cs)=>if off+n * k≤cs.length then some ((cs.drop off).take (n * k)) else none|_=>none) else none:=rfl
structure Has (C:Cfg) (f:Nat) (fn:AFunc):Prop where
  ext:C.ext f=none
  exth:C.exth f=none
  fns:C.fns f=some fn
  whole:C.whole f=true
def spA (s:Clm.Sp):AV:=.agg [.int .i64 s.lo,.int .i64 s.hi]
theorem zdg {G:List AB}{l:Nat}(x:AB)(hl:l<G.length):∃ G2,G2=G.set l x∧G2.length=G.length∧G2[l]?=some x∧(∀ j,j≠l→G2[j]?=G[j]?)∧Kp [l] G G2:=
  ⟨_,rfl,by simp,List.getElem?_set_self hl,fun j hj=>List.getElem?_set_ne (by omega),(Kp.refl [l] G).set _ _ (by simp)⟩
theorem zew {C:Cfg}{n f:Nat}{fn:AFunc}{first captured args:List AV}{H K:List AB}{v:AV}(hc:C.calm=true)(h0:Has C f fn)(hlen:(first++args++captured).length≤fn.ntmps)(hv:refs v≠[])
    (h:Does (ev C (Ev.call C n) H.length none fn.body { tm:=tmA fn.ntmps (zipI 0 (first++args++captured) []),df:=[],hp:=H,tc:=[] }) (Ends C H.length fn.res fun w hp tc=>w=v∧hp=H++K∧tc=[])):
    Ev.call C (n+1) (.fn (.func f) first captured) args H=some (.ret v,H++K,[]):=by
  obtain ⟨w,hp,tc,H',c1,⟨rfl,rfl,rfl⟩,c5,c6,_⟩:=zbm hc h0.ext h0.exth h0.fns h0.whole hlen h
  rw[c1,lft_eq c5 (Kp.app _ _) c6 (.inl hv)]
theorem zaj {C:Cfg}{n f:Nat}{fn:AFunc}{first captured args:List AV}{H:List AB}{v:AV}(hc:C.calm=true)(h0:Has C f fn)(hlen:(first++args++captured).length≤fn.ntmps)(hv:refs v=[])
    (h:Does (ev C (Ev.call C n) H.length none fn.body { tm:=tmA fn.ntmps (zipI 0 (first++args++captured) []),df:=[],hp:=H,tc:=[] }) (Ends C H.length fn.res fun w _hp tc=>w=v∧tc=[])):
    Ev.call C (n+1) (.fn (.func f) first captured) args H=some (.ret v,H,[]):=by
  obtain ⟨w,hp,tc,H',c1,⟨rfl,rfl⟩,_,_,c7⟩:=zbm hc h0.ext h0.exth h0.fns h0.whole hlen h
  rw[c1,c7 hv rfl]
theorem zzm {d:Nat}(h:d≤40):IntKind.u64.wrap (1 * 2 ^ (min ((d:Int).toNat) IntKind.u64.bits))=((2 ^ d:Nat):Int)∧IntKind.u64.wrap (2 ^ (min ((d:Int).toNat) IntKind.u64.bits))=((2 ^ d:Nat):Int)∧IntKind.u64.wrap (2 ^ (min d IntKind.u64.bits))=((2 ^ d:Nat):Int):=by
  have hb:IntKind.u64.bits=64:=rfl
  have h1:min ((d:Int).toNat) IntKind.u64.bits=d:=by rw[hb];omega
  have h1':min d IntKind.u64.bits=d:=by rw[hb];omega
  have h2:(2:Int) ^ d=((2 ^ d:Nat):Int):=by simp
  have h3:2 ^ d≤2 ^ 40:=Nat.pow_le_pow_right (by decide) h
  have h4:∀ q:Nat,q≤2 ^ 40→IntKind.u64.wrap (q:Int)=q:=by
    intro q hq
    simp[IntKind.wrap,IntKind.bits,IntKind.signed]
    omega
  rw[h1,h1',Int.one_mul,h2]
  exact ⟨h4 _ h3,h4 _ h3,h4 _ h3⟩
theorem zet {n:Int}(h1:0≤n)(h2:n<18446744073709551616):IntKind.u64.wrap n=n:=by
  simp[IntKind.wrap,IntKind.bits,IntKind.signed]
  omega
theorem zwa {n d:Nat}(hd:d≤64):IntKind.u64.wrap ((BitVec.ofInt IntKind.u64.bits ((n:Int).fdiv (2 ^ (min ((d:Int).toNat) IntKind.u64.bits)))&&&BitVec.ofInt IntKind.u64.bits 1).toNat)=if n.testBit d then 1 else 0:=by
  have hb:IntKind.u64.bits=64:=rfl
  have hf:((n:Int).fdiv (2 ^ d))=((n / 2 ^ d:Nat):Int):=by
    rw[Int.fdiv_eq_ediv_of_nonneg _ (Int.pow_nonneg (by decide))];simp
  rw[show min ((d:Int).toNat) IntKind.u64.bits=d by rw[hb];omega,hf,hb]
  have h1:(BitVec.ofInt 64 ((n / 2 ^ d:Nat):Int)).toNat=(n / 2 ^ d) % 2 ^ 64:=by
    rw[BitVec.toNat_ofInt];omega
  have h2:(BitVec.ofInt 64 1).toNat=1:=by decide
  rw[BitVec.toNat_and,h1,h2,Nat.and_one_is_mod,Nat.testBit_eq_decide_div_mod_eq]
  generalize n / 2 ^ d=q at *
  have h3:q % 2 ^ 64 % 2=q % 2:=by omega
  rw[h3]
  by_cases hm:q % 2=1
  · rw[hm];rfl
  · rw[show q % 2=0 by omega];rfl
def Fin (C:Cfg)(pin:Nat)(fn:AFunc)(Q:CRes→List AB→List Nat→Prop)(e:AExit)(st:St):Prop:=∃ x st',finish C pin fn e st=some (x,st')∧pin≤st'.hp.length∧Q x st'.hp st'.tc
theorem zbw {C:Cfg}{pin:Nat}{fn:AFunc}{Q:CRes→List AB→List Nat→Prop}{v:AV}{st:St}(hd:st.df=[])(hl:pin≤st.hp.length)(hq:Q (.pan v) st.hp st.tc):Fin C pin fn Q (.panic v) st:=⟨_,_,zpv hd,hl,hq⟩
theorem zmg {C:Cfg}{pin:Nat}{fn:AFunc}{Q:CRes→List AB→List Nat→Prop}{e:AExit}{st:St}{v:AV}(he:e=.ret∨e=.normal)(hd:st.df=[])(hl:pin≤st.hp.length)(hr:(resL st fn.res).map resV=some v)(hq:Q (.ret v) st.hp st.tc):Fin C pin fn Q e st:=by
  obtain ⟨x,st',h1,h2,v',h3,h4⟩:=zeo (Q:=fun v hp tc=>Q (.ret v) hp tc) (zac he hd hl hr hq)
  exact ⟨x,st',h1,h2,by rw[h3];exact h4⟩
theorem zbl {C:Cfg}{fn:AFunc}{Q:CRes→List AB→List Nat→Prop}{f t b:Nat}{e:Int}{x:AV}{st:St}{v:AV}(hk:C.dfk f=some (t,true))(hd:st.df=[.call f [.ptr b 0]])(hb:st.hp[b]?=some (.cells [x]))
    (hr:(resL { st with hp:=st.hp.set b (.cells [.int .i64 e]) } fn.res).map resV=some v) (hq:Q (.ret v) (st.hp.set b (.cells [.int .i64 e])) st.tc):Fin C 0 fn Q (.panic (.iface t (.agg [.int .i64 e]))) st:=by
  refine ⟨.ret v,{ st with hp:=st.hp.set b (.cells [.int .i64 e]) },?_,Nat.zero_le _,hq⟩
  show (match runDefs C 0 st.df (some (.iface t (.agg [.int .i64 e]))) st with
    |some (none,st)=>(resL st fn.res).map fun vs=>(CRes.ret (resV vs),st)
    |some (some v,st)=>some (.pan v,st)
    |none=>none)=_
  have:runDefs C 0 st.df (some (.iface t (.agg [.int .i64 e]))) st=some (none,{ st with hp:=st.hp.set b (.cells [.int .i64 e]) }):=by
    conv=>lhs;rw[hd]
    simp only[runDefs,hk,codeOf,hb]
    simp[setAt]
  rw[this]
  simp only
  cases h:resL { st with hp:=st.hp.set b (.cells [.int .i64 e]) } fn.res with
  |none=>rw[h] at hr;cases hr
  |some vs=>rw[h] at hr;cases hr;rfl
theorem zdk {C:Cfg}{pin:Nat}{fn:AFunc}{Q:CRes→List AB→List Nat→Prop}{f b:Nat}{k:Nat × Bool}{e:AExit}{st:St}{v:AV}(he:e=.ret∨e=.normal)(hk:C.dfk f=some k)(hd:st.df=[.call f [.ptr b 0]])(hl:pin≤st.hp.length)
    (hr:(resL st fn.res).map resV=some v) (hq:Q (.ret v) st.hp st.tc):Fin C pin fn Q e st:=by
  refine ⟨.ret v,st,?_,hl,hq⟩
  have h1:runDefs C pin st.df none st=some (none,st):=by
    conv=>lhs;rw[hd]
    simp only[runDefs,hk]
  have : (match runDefs C pin st.df none st with
    |some (none,st)=>(resL st fn.res).map fun vs=>(CRes.ret (resV vs),st)
    |_=>none)=some (.ret v,st):=by
    rw[h1]
    simp only
    cases hr':resL st fn.res with
    |none=>rw[hr'] at hr;cases hr
    |some vs=>rw[hr'] at hr;cases hr;rfl
  rcases he with rfl|rfl<;>exact this
def Ans (v:AV)(x:CRes)(_:List AB)(tc:List Nat):Prop:=x=.ret v∧tc=[]
theorem zdl {C:Cfg}{n f:Nat}{fn:AFunc}{first captured args:List AV}{H:List AB}{Q:CRes→List AB→List Nat→Prop}(hc:C.calm=true)(h0:Has C f fn)(hlen:(first++args++captured).length≤fn.ntmps)
    (h:Does (ev C (Ev.call C n) H.length none fn.body { tm:=tmA fn.ntmps (zipI 0 (first++args++captured) []),df:=[],hp:=H,tc:=[] }) (Fin C H.length fn Q)):
    ∃ x hp tc H',Ev.call C (n+1) (.fn (.func f) first captured) args H=Option.some (x,H',tc)∧Q x hp tc∧Lft H hp tc H'∧(refs x.val≠[]∨tc≠[]→H'.length=hp.length∧∀ j,H.length≤j→H'[j]?=hp[j]?)∧(refs x.val=[]→tc=[]→H'=H):=
  znl hc h0.ext h0.exth h0.fns h0.whole hlen h
abbrev le' {a b:Nat} (h:Nat.ble a b=true):a≤b:=Nat.le_of_ble_eq_true h
theorem zbe (fl:List (Nat × List Nat))(d:Nat):(fl.all fun p=>d.testBit p.1 || apart p.2 [])=true:=by simp[apart]
def atP:List Nat→AC→AC
  |0::p,.seq a _=>atP p a
  |1::p,.seq _ b=>atP p b
  |_::p,.block _ c=>atP p c
  |_::p,.loop _ c=>atP p c
  |0::p,.cond _ a _=>atP p a
  |1::p,.cond _ _ b=>atP p b
  |_,c=>c
structure HB (G:List AB) (q:Nat) (x:AB):Prop where
  get:G[q]?=some x
  lt:q<G.length
  lts:∀ n,q<G.length+n
theorem hb {G:List AB}{q:Nat}{x:AB}(h:G[q]?=some x):HB G q x:=⟨h,get_lt h,fun n=>by have:=get_lt h;omega⟩
theorem HB.set {G:List AB}{q r:Nat}{x:AB}(h:HB G q x)(v:AB)(hne:r≠q):HB (G.set r v) q x:=hb (by rw[List.getElem?_set_ne hne];exact h.get)
theorem HB.here {G:List AB}{q:Nat}{x:AB}(h:HB G q x)(v:AB):HB (G.set q v) q v:=hb (by rw[List.getElem?_set_self h.lt])
theorem HB.app {G:List AB}{q:Nat}{x:AB}(h:HB G q x)(K:List AB):HB (G++K) q x:=hb (by rw[List.getElem?_append_left h.lt];exact h.get)
theorem zba {C:Cfg}{call:CallF}{pin:Nat}{nod:Bool}{fl:List (Nat × List Nat)}{o:AOp}{st:St}{v:AV}{hp:List AB}{tc:List Nat}(hg:o.guard=Option.none)(hk:spineK o.op=true)
    (hs:spine call (val C st.tm) st.hp o.op=some (.ret v,hp,tc)) (hd0:Nat.beq o.deps (Nat.sub (Nat.pow 2 o.ix) 1)=true) (hf0:(fl.all fun p=>Nat.ble (p.1+1) o.ix)=true):
    ev1 C call pin nod true fl o st=some (.next Option.none { st with hp:=hp,tm:=putT st.tm o.dst v,tc:=tc.filter (·<pin)++st.tc }):=by
  have hd:o.deps=2 ^ o.ix - 1:=Nat.eq_of_beq_eq_true hd0
  clear hd0
  obtain ⟨ix,dst,op,guard,deps⟩:=o
  dsimp only at hg hk hs hd hf0
  have hf:(fl.all fun p=>deps.testBit p.1)=true:=by
    rw[List.all_eq_true] at hf0 ⊢
    intro p hp
    have:=Nat.le_of_ble_eq_true (hf0 p hp)
    rw[hd,Nat.testBit_two_pow_sub_one]
    exact decide_eq_true (by omega)
  subst hg
  have h1:(fl.all fun p=>deps.testBit p.1 || apart p.2 tc)=true:=by
    rw[List.all_eq_true] at hf ⊢
    intro p hp
    rw[hf p hp,Bool.true_or]
  unfold ev1
  simp only[wantG]
  cases op<;>first|(simp only[spine] at hs;cases hs;done)|(simp only[spineK] at hk;cases hk;done)|(simp only[hs,h1,Bool.or_true,spineK,cond_true])
theorem zbr (fl:List (Nat × List Nat))(d b:Nat)(h:(fl.all fun p=>apart p.2 [b])=true):(fl.all fun p=>d.testBit p.1 || apart p.2 [b])=true:=by
  rw[List.all_eq_true] at h ⊢
  intro p hp
  rw[h p hp,Bool.or_true]
def ints (l:List Int):List AV:=l.map (AV.int .i64)
theorem zfn:∀ l,(ints l).all AV.plain=true
  |[]=>rfl
  |a::l=>by simp only[ints,List.map_cons,List.all_cons];exact zfn l
theorem ints_get (L:List Int)(q:Nat)(h:q<L.length):(ints L)[q]?=some (.int .i64 (L.getD q 0)):=by
  unfold ints
  rw[List.getElem?_map,List.getElem?_eq_getElem h,List.getD_eq_getElem?_getD,List.getElem?_eq_getElem h];rfl
end K
end Ev
end Go.Proofs.YtlcjlcllbgjplaaGreat
