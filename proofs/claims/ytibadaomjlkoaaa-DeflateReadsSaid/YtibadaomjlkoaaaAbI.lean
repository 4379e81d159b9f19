import Derived.Test.YtibadaomjlkoaaaG1
set_option linter.unusedVariables false
set_option linter.unusedSimpArgs false
open Go.RowKit
namespace Go.Proofs.Ytibadaomjlkoaaa
def Cn (P:Program)(t:Nat)(name:String):Option (Nat×Option Nat):=
 match P.info? t,P.underlying t with
 |some i,some (.pointer e)=>match i.methods.find? (·.name==name)with
  |some m=>match m.path.toList,m.func with
   |[],some (f,true)=>some (f,none)
   |[],some (f,false)=>some (f,some e)
   |_,_=>none
  |none=>none
 |_,_=>none
def zu (P:Program)(T:List TI)(M:AH)(t:Nat)(name:String)(v:AV)(C:Nat→AV→Prop):Prop:=
 ∃g o,Cn P t name=some (g,o)∧match o with
  |none=>C g v
  |some e=>rF T M e v fun x=>C g x
theorem zu.ptr {P:Program}{T:List TI}{M:AH}{t:Nat}{name:String}{v:AV}{C:Nat→AV→Prop}(g:Nat)(hm:Cn P t name=some (g,none))(h:C g v):zu P T M t name v C:=⟨g,none,hm,h⟩
theorem zu.val {P:Program}{T:List TI}{M:AH}{t:Nat}{name:String}{v:AV}{C:Nat→AV→Prop}(g e:Nat)(hm:Cn P t name=some (g,some e))(h:rF T M e v fun x=>C g x):zu P T M t name v C:=⟨g,some e,hm,h⟩
theorem Ei {P:Program}{t:Nat}{p v:Value}{w w':World}(h:(Instr.loadAt t p).run P w=.ok v w'):∃a,p=.pointer (some a)∧(loadVar t a).run P w=.ok v w':=by
 unfold Instr.loadAt Instr.sureAddr at h
 split at h
 ·exact⟨_,rfl,by simpa using h⟩
 ·simp[stuck]at h
theorem BV {P:Program}{w:World}{js:Array TypeId}{t:Nat}{a:Addr}{s1 s2:String}:(Builtin.ssaWrapNilChk_ js t #[.pointer (some a),strVal s1,strVal s2]).run P w=.ok (.pointer (some a)) w:=rfl
theorem yM {P:Program}{t:Nat}{name:String}{f:Nat}{o:Option Nat}(h:Cn P t name=some (f,o)){v r:Value}{w:World}
 (hr:match o with|none=>r=v|some e=>(Instr.loadAt e v).run P w=.ok r w)(args:Array Value):
 (callMethod (.iface t v) name args).run P w=(callFunc f (#[r]++args)).run P w:=by
 unfold Cn at h
 split at h
 ·rename_i i e hi hd
  split at h
  ·rename_i m hm
   have key:(method (P.types.size+Made.depth) t v name).run P w=.ok (f,r) w:=by
    have fb:P.types.size+Made.depth=(P.types.size+99)+1:=rfl
    rw[fb,method]
    simp only[Sem.run_bind,run_typeInfo w hi,Result.andThen_ok,hm]
    split at h
    ·rename_i f' hp hf
     cases h
     simp only at hr
     subst hr
     simp[follow,hf,hp,receiverAt,run_underlying hd,Place.get]
    ·rename_i f' hp hf
     cases h
     simp only at hr
     obtain⟨a,rfl,hl⟩:=Ei hr
     have he:m.path.isEmpty=true:=by
      have:m.path=#[]:=by apply Array.toList_inj.1;simpa using hp
      rw[this];rfl
     simp[follow,hf,hp,he,receiverAt,run_underlying hd,Place.get,BV,asAddr,hl]
    ·cases h
   simp only[callMethod,Sem.run_bind,run_program,Result.andThen_ok,key]
  ·cases h
 ·cases h
theorem Dl {P:Program}{T:List TI}(hT:av P T){M:AH}{t:Nat}{name:String}{v:AV}{C:Nat→AV→Prop}{ρ:Env}{w:World}(hs:aW ρ M w)(hv:v.ok ρ)(h:zu P T M t name v C):
 ∃f r,C f r∧r.ok ρ∧∀args,(callMethod (.iface t (v.c ρ)) name args).run P w=(callFunc f (#[r.c ρ]++args)).run P w:=by
 obtain⟨f,o,hm,h⟩:=h
 cases o with
 |none=>
  exact⟨f,v,h,hv,fun args=>yM hm rfl args⟩
 |some e=>
  obtain⟨x,h1,h2,h3⟩:=iz (P:=P) hT hs.known (hs.id _) h
  exact⟨f,x,h1,h2,fun args=>yM hm (h3 w (hs.id _)) args⟩
end Go.Proofs.Ytibadaomjlkoaaa
